/- Part 5 of the texts below the row of FnExactAllLinear: printed functions with their contracts, and plain lemmas. No condition. -/
import Derived.Test.YtjahclncpgllmaaZFnExactAllLinear4
import Derived.Deep.RegionHeld3
import Derived.Deep.RegionWith
import Derived.OneCell
import Derived.Laws.EntriesVeiled
import Derived.Lib.Hide
section
namespace Go.Proofs.Ytjahclncpgllmaa.F
open Go.RowKit Go.Proofs.YtjahclncpgllmaaW.PrintWords Go.Proofs.YtjahclncpgllmaaW.PrintLast Go.Proofs.YtjahclncpgllmaaW.PrintMore
set_option linter.unusedVariables false
set_option linter.unusedSimpArgs false
/-- The four captured variables: the poset, the list of orders, the order under way, the function itself. -/
structure FewA where
  gp : Nat
  go : Nat
  gw : Nat
  gf : Nat
  A0 : Option Addr
  c0 : Nat
  p : List Int
  w : World
def FewA.caps (S : FewA) : Array Value := #[.pointer (some ⟨S.gp, 0, none⟩), .pointer (some ⟨S.go, 0, none⟩), .pointer (some ⟨S.gw, 0, none⟩), .pointer (some ⟨S.gf, 0, none⟩)]
structure FewA.Ok (S : FewA) : Prop where
  C : Kd.C (Kd.int .i64) S.w S.A0 S.p.length S.p
  le : S.p.length ≤ S.c0
  bp : S.w.heap.size ≤ S.gp
  bo : S.w.heap.size ≤ S.go
  bw : S.w.heap.size ≤ S.gw
  bf : S.w.heap.size ≤ S.gf
  po : S.gp ≠ S.go
  pw : S.gp ≠ S.gw
  pf : S.gp ≠ S.gf
  ow : S.go ≠ S.gw
  of_ : S.go ≠ S.gf
  wf : S.gw ≠ S.gf
def FewA.ok (S : FewA) (av : Nat → Prop) (k : Nat) : Prop := k ≠ S.gp ∧ k ≠ S.go ∧ k ≠ S.gw ∧ k ≠ S.gf ∧ ¬ av k
/-- What holds between the calls. -/
structure FewI (S : FewA) (av : Nat → Prop) (vo vw : Value) (o : List (List Int)) (wl : List Int) (W : World) : Prop where
  below : Below S.w.heap.size S.w W
  cp : W.heap[S.gp]? = some (.cells #[.slice S.A0 S.p.length S.c0] 28 (0, 0))
  co : W.heap[S.go]? = some (.cells #[vo] 38 (0, 0))
  cw : W.heap[S.gw]? = some (.cells #[vw] 22 (0, 0))
  cf : W.heap[S.gf]? = some (.cells #[.func (.func 108) #[] S.caps] 84 (0, 0))
  HO : Kd.S (Kd.slice 3 (Kd.int .i64)) 22 W S.w.heap.size (fun k => S.ok av k ∧ some k ≠ vw.ownBlock) vo o
  HW : Kd.R (Kd.int .i64) 3 W S.w.heap.size (S.ok av) vw wl
  avlt : ∀ k, av k → k < W.heap.size
  nav : ¬ av S.gp ∧ ¬ av S.go ∧ ¬ av S.gw ∧ ¬ av S.gf
theorem FewI.step {S : FewA} {av : Nat → Prop} {vo vw : Value} {o : List (List Int)} {wl : List Int} {W W1 : World} (h : FewI S av vo vw o wl W) (hb : Below W.heap.size W W1) : FewI S av vo vw o wl W1 :=
  ⟨below_step h.below hb, blk_below h.cp hb, blk_below h.co hb, blk_below h.cw hb, blk_below h.cf hb, Kd.S_below h.HO hb, Kd.R_below h.HW hb, fun k hk => Nat.lt_of_lt_of_le (h.avlt k hk) hb.size, h.nav⟩
theorem FewI.far {S : FewA} (hS : S.Ok) {av : Nat → Prop} {vo vw : Value} {o : List (List Int)} {wl : List Int} {W : World} (h : FewI S av vo vw o wl W) {k : Nat} (hk : W.heap.size ≤ k) : S.ok av k :=
  ⟨by have := blk_lt h.cp; omega, by have := blk_lt h.co; omega, by have := blk_lt h.cw; omega, by have := blk_lt h.cf; omega, fun ha => by have := h.avlt k ha; omega⟩
def FewKeep (av : Nat → Prop) (W W' : World) : Prop := W.heap.size ≤ W'.heap.size ∧ ∀ k, av k → W'.heap[k]? = W.heap[k]?
theorem FewKeep.refl (av : Nat → Prop) (W : World) : FewKeep av W W := ⟨Nat.le_refl _, fun _ _ => rfl⟩
theorem FewKeep.trans {av : Nat → Prop} {W1 W2 W3 : World} (h : FewKeep av W1 W2) (h' : FewKeep av W2 W3) : FewKeep av W1 W3 := ⟨Nat.le_trans h.1 h'.1, fun k hk => (h'.2 k hk).trans (h.2 k hk)⟩
theorem FewKeep.of_below {av : Nat → Prop} {W W1 : World} (hlt : ∀ k, av k → k < W.heap.size) (hb : Below W.heap.size W W1) : FewKeep av W W1 := ⟨hb.size, fun k hk => hb.block k (hlt k hk)⟩
theorem few_size (w : World) (a : Addr) (v : Value) : (w.setCell a v).heap.size = w.heap.size := by
  rcases a with ⟨b, o, sp⟩
  simp [World.setCell]
/-- A new list of orders is stored. -/
theorem FewI.put_out {S : FewA} (hS : S.Ok) {av : Nat → Prop} {vo vw v1 : Value} {o o' : List (List Int)} {wl : List Int} {W w1 : World} (h : FewI S av vo vw o wl W)
    (hs : Kd.S (Kd.slice 3 (Kd.int .i64)) 22 w1 S.w.heap.size (fun k => S.ok av k ∧ some k ≠ vw.ownBlock) v1 o') (hb : Below S.w.heap.size S.w w1) (hg : W.grownBy w1 vo.ownBlock) :
    FewI S av v1 vw o' wl (w1.setCell ⟨S.go, 0, none⟩ v1) ∧ FewKeep av W (w1.setCell ⟨S.go, 0, none⟩ v1) := by
  have hvo : ∀ k, vo.ownBlock = some k → S.ok av k ∧ some k ≠ vw.ownBlock := (Kd.S_R h.HO).1
  have hne : ∀ k, ¬ S.ok av k → some k ≠ vo.ownBlock := fun k hk e => hk (hvo k e.symm).1
  have hgo : S.w.heap.size ≤ S.go := hS.bo
  have g1 := blk_grown h.cp hg (hne _ (fun h => h.1 rfl))
  have g2 := blk_grown h.co hg (hne _ (fun h => h.2.1 rfl))
  have g3 := blk_grown h.cw hg (hne _ (fun h => h.2.2.1 rfl))
  have g4 := blk_grown h.cf hg (hne _ (fun h => h.2.2.2.1 rfl))
  have hs' := Kd.S_far hs (p := ⟨S.go, 0, none⟩) (fun k hk => hk.1.2.1) v1
  have hw0 := Kd.R_step (Kd.R_tight2 rfl h.HW) (w1 := w1) (fun k ho hk => hg.block k hk (fun e => (hvo k e.symm).2 ho.1))
  have hw' := Kd.R_far (Kd.R_mono (ok' := S.ok av) hw0 (fun k hk => hk.2)) (p := ⟨S.go, 0, none⟩) (fun k hk => hk.2.1) v1
  refine ⟨⟨below_set hb hgo, ?_, one_setCell g2, ?_, ?_, hs', hw', fun k hk => ?_, h.nav⟩, ?_, fun k hk => ?_⟩
  · exact (Below.heap_setCell _ _ _ _ hS.po).trans g1
  · exact (Below.heap_setCell _ _ _ _ (Ne.symm hS.ow)).trans g3
  · exact (Below.heap_setCell _ _ _ _ (Ne.symm hS.of_)).trans g4
  · rw [few_size]; exact Nat.lt_of_lt_of_le (h.avlt k hk) hg.size
  · rw [few_size]; exact hg.size
  · have hkg : k ≠ S.go := fun e => h.nav.2.1 (e ▸ hk)
    exact (Below.heap_setCell _ _ _ _ hkg).trans (hg.block k (h.avlt k hk) (hne k (fun h => h.2.2.2.2 hk)))
theorem FewI.go_kept {S : FewA} {av : Nat → Prop} {vo vw : Value} {o : List (List Int)} {wl : List Int} {W w1 : World} (h : FewI S av vo vw o wl W) (hg : W.grownBy w1 vo.ownBlock) : w1.heap[S.go]? = some (.cells #[vo] 38 (0, 0)) :=
  blk_grown h.co hg (fun e => ((Kd.S_R h.HO).1 _ e.symm).1.2.1 rfl)
theorem FewI.vw_lt {S : FewA} {av : Nat → Prop} {vo vw : Value} {o : List (List Int)} {wl : List Int} {W : World} (h : FewI S av vo vw o wl W) {k : Nat} (hk : W.heap.size ≤ k) : some k ≠ vw.ownBlock := fun e => by
  have := Kd.R_lt h.HW k e.symm; omega
theorem few_new {S : FewA} (hS : S.Ok) {av : Nat → Prop} {vo vw v2 : Value} {o : List (List Int)} {wl l2 : List Int} {W W2 : World} (h : FewI S av vo vw o wl W) (hr : Kd.R (Kd.int .i64) 3 W2 W.heap.size (fun _ => True) v2 l2) :
    ∀ k, some k = v2.ownBlock → (S.ok av k ∧ some k ≠ vw.ownBlock) ∧ some k ≠ vo.ownBlock := fun k hk => by
  have hb := Kd.R_base hr k hk.symm
  refine ⟨⟨h.far hS hb, h.vw_lt hb⟩, fun e => ?_⟩
  have := Kd.S_lt h.HO k e.symm; omega
theorem few_old {S : FewA} {av : Nat → Prop} {vo vw v2 : Value} {o : List (List Int)} {wl l2 : List Int} {W W2 : World} (h : FewI S av vo vw o wl W) (hb : Below W.heap.size W W2) (hr : Kd.R (Kd.int .i64) 3 W2 W.heap.size (fun _ => True) v2 l2) :
    Kd.S (Kd.slice 3 (Kd.int .i64)) 22 W2 S.w.heap.size (fun k => (S.ok av k ∧ some k ≠ vw.ownBlock) ∧ ¬ some k = v2.ownBlock) vo o := by
  refine Kd.S_below (Kd.S_mono (Kd.S_bound h.HO) (fun k hk => ⟨hk.1, fun e => ?_⟩)) hb
  have h1 := Kd.R_base hr k e.symm
  have h2 := hk.2.2.1
  omega
/-- A new order under way is stored. -/
theorem FewI.put_w {S : FewA} (hS : S.Ok) {av : Nat → Prop} {vo vw v1 : Value} {o : List (List Int)} {wl wl' : List Int} {W w1 : World} (h : FewI S av vo vw o wl W)
    (hr : Kd.R (Kd.int .i64) 3 w1 S.w.heap.size (S.ok av) v1 wl') (hb : Below S.w.heap.size S.w w1) (hg : W.grownBy w1 vw.ownBlock) (hat : v1.ownBlock = vw.ownBlock ∨ ∃ b, v1.ownBlock = some b ∧ W.heap.size ≤ b) :
    FewI S av vo v1 o wl' (w1.setCell ⟨S.gw, 0, none⟩ v1) ∧ FewKeep av W (w1.setCell ⟨S.gw, 0, none⟩ v1) := by
  have hvw : ∀ k, vw.ownBlock = some k → S.ok av k := h.HW.1
  have hne : ∀ k, ¬ S.ok av k → some k ≠ vw.ownBlock := fun k hk e => hk (hvw k e.symm)
  have hgw : S.w.heap.size ≤ S.gw := hS.bw
  have g1 := blk_grown h.cp hg (hne _ (fun h => h.1 rfl))
  have g2 := blk_grown h.co hg (hne _ (fun h => h.2.1 rfl))
  have g3 := blk_grown h.cw hg (hne _ (fun h => h.2.2.1 rfl))
  have g4 := blk_grown h.cf hg (hne _ (fun h => h.2.2.2.1 rfl))
  have hs' := Kd.S_far (Kd.S_after h.HO hg hat) (p := ⟨S.gw, 0, none⟩) (fun k hk => hk.1.2.2.1) v1
  have hw' := Kd.R_far hr (p := ⟨S.gw, 0, none⟩) (fun k hk => hk.2.2.1) v1
  refine ⟨⟨below_set hb hgw, ?_, ?_, one_setCell g3, ?_, hs', hw', fun k hk => ?_, h.nav⟩, ?_, fun k hk => ?_⟩
  · exact (Below.heap_setCell _ _ _ _ hS.pw).trans g1
  · exact (Below.heap_setCell _ _ _ _ hS.ow).trans g2
  · exact (Below.heap_setCell _ _ _ _ (Ne.symm hS.wf)).trans g4
  · rw [few_size]; exact Nat.lt_of_lt_of_le (h.avlt k hk) hg.size
  · rw [few_size]; exact hg.size
  · have hkg : k ≠ S.gw := fun e => h.nav.2.2.1 (e ▸ hk)
    exact (Below.heap_setCell _ _ _ _ hkg).trans (hg.block k (h.avlt k hk) (hne k (fun h => h.2.2.2.2 hk)))
theorem FewI.gw_kept {S : FewA} {av : Nat → Prop} {vo vw : Value} {o : List (List Int)} {wl : List Int} {W w1 : World} (h : FewI S av vo vw o wl W) (hg : W.grownBy w1 vw.ownBlock) : w1.heap[S.gw]? = some (.cells #[vw] 22 (0, 0)) :=
  blk_grown h.cw hg (fun e => (h.HW.1 _ e.symm).2.2.1 rfl)
theorem FewI.gf_kept {S : FewA} {av : Nat → Prop} {vo vw : Value} {o : List (List Int)} {wl : List Int} {W w1 : World} (h : FewI S av vo vw o wl W) (hg : W.grownBy w1 vw.ownBlock) : w1.heap[S.gf]? = some (.cells #[.func (.func 108) #[] S.caps] 84 (0, 0)) :=
  blk_grown h.cf hg (fun e => (h.HW.1 _ e.symm).2.2.2.1 rfl)
def fewAv (av : Nat → Prop) (v : Value) (k : Nat) : Prop := av k ∨ some k = v.ownBlock
/-- A fresh row is to be left alone too. -/
theorem FewI.with_row {S : FewA} {av : Nat → Prop} {vo vw vl : Value} {o : List (List Int)} {wl l : List Int} {W W2 : World} (h : FewI S av vo vw o wl W) (hb : Below W.heap.size W W2) (hr : Kd.R (Kd.int .i64) 3 W2 W.heap.size (fun _ => True) vl l) : FewI S (fewAv av vl) vo vw o wl W2 := by
  have h2 := h.step hb
  have hv : ∀ k, some k = vl.ownBlock → W.heap.size ≤ k := fun k e => Kd.R_base hr k e.symm
  refine ⟨h2.below, h2.cp, h2.co, h2.cw, h2.cf, ?_, ?_, ?_, ?_⟩
  · refine Kd.S_below (Kd.S_mono (Kd.S_bound h.HO) (fun k hk => ⟨⟨hk.1.1.1, hk.1.1.2.1, hk.1.1.2.2.1, hk.1.1.2.2.2.1, fun hx => ?_⟩, hk.1.2⟩)) hb
    rcases hx with hx | hx
    · exact hk.1.1.2.2.2.2 hx
    · have := hv k hx; have := hk.2.2.1; omega
  · refine Kd.R_below (Kd.R_mono (Kd.R_bound h.HW) (fun k hk => ⟨hk.1.1, hk.1.2.1, hk.1.2.2.1, hk.1.2.2.2.1, fun hx => ?_⟩)) hb
    rcases hx with hx | hx
    · exact hk.1.2.2.2.2 hx
    · have := hv k hx; have := hk.2.2.1; omega
  · intro k hk
    rcases hk with hk | hk
    · exact h2.avlt k hk
    · exact Kd.R_lt hr k hk.symm
  · have l1 := blk_lt h.cp
    have l2 := blk_lt h.co
    have l3 := blk_lt h.cw
    have l4 := blk_lt h.cf
    refine ⟨?_, ?_, ?_, ?_⟩ <;> rintro (hx | hx)
    · exact h.nav.1 hx
    · have := hv _ hx; omega
    · exact h.nav.2.1 hx
    · have := hv _ hx; omega
    · exact h.nav.2.2.1 hx
    · have := hv _ hx; omega
    · exact h.nav.2.2.2 hx
    · have := hv _ hx; omega
/-- .. and forgotten. -/
theorem FewI.forget {S : FewA} {av : Nat → Prop} {vo vw vl : Value} {o : List (List Int)} {wl : List Int} {W : World} (h : FewI S (fewAv av vl) vo vw o wl W) : FewI S av vo vw o wl W :=
  ⟨h.below, h.cp, h.co, h.cw, h.cf, Kd.S_mono h.HO (fun k hk => ⟨⟨hk.1.1, hk.1.2.1, hk.1.2.2.1, hk.1.2.2.2.1, fun hx => hk.1.2.2.2.2 (.inl hx)⟩, hk.2⟩), Kd.R_mono h.HW (fun k hk => ⟨hk.1, hk.2.1, hk.2.2.1, hk.2.2.2.1, fun hx => hk.2.2.2.2 (.inl hx)⟩), fun k hk => h.avlt k (.inl hk), fun hx => h.nav.1 (.inl hx), fun hx => h.nav.2.1 (.inl hx), fun hx => h.nav.2.2.1 (.inl hx), fun hx => h.nav.2.2.2 (.inl hx)⟩
theorem FewKeep.forget {av : Nat → Prop} {vl : Value} {W W1 : World} (h : FewKeep (fewAv av vl) W W1) : FewKeep av W W1 := ⟨h.1, fun k hk => h.2 k (.inl hk)⟩
theorem few_cell {av : Nat → Prop} {l : List Int} {W W1 : World} {b g c : Nat} (hr : Kd.R (Kd.int .i64) 3 W b (fun _ => True) (.slice (some ⟨g, 0, none⟩) l.length c) l) (hk : FewKeep (fewAv av (.slice (some ⟨g, 0, none⟩) l.length c)) W W1) (i : Nat) (hi : i < l.length) :
    W1.cell? ⟨g, i, none⟩ = some (.int .i64 (rd l (i : Int))) := by
  have h1 := Kd.R_move (Kd.R_tight rfl hr) (w1 := W1) (fun k hk' => hk.2 k (.inr hk'))
  have h2 := (Kd.R_cell (0 : Int) h1 (i : Int) (by omega) (by omega)).1
  rwa [Int.toNat_natCast] at h2
theorem few_rd {l : List Int} {i : Nat} {e : Int} {m : List Int} (h : l.drop i = e :: m) : i < l.length ∧ rd l (i : Int) = e ∧ l.drop (i + 1) = m := by
  have hi : i < l.length := by
    rcases Nat.lt_or_ge i l.length with h' | h'
    · exact h'
    · rw [List.drop_eq_nil_of_le h'] at h; cases h
  rw [List.drop_eq_getElem_cons hi] at h
  injection h with h1 h2
  refine ⟨hi, ?_, h2⟩
  unfold rd
  rw [Int.toNat_natCast, ← h1]
  simp [hi]
def few_row (g : Int → List Int → Option (List (List Int))) (s : Int) (w : List Int) : List Int → Option (List (List Int))
  | [] => some []
  | e :: l => if 0 ≤ e ∧ w.length ≤ 1000 then (g (Go.bits .or .i64 s (shl .i64 1 e)) (w ++ [e])).bind fun o => (few_row g s w l).bind fun o' => some (o ++ o') else none
def few_put (F : Nat) (p : List Int) : Nat → Int → List Int → Option (List (List Int))
  | 0, _, _ => none
  | d + 1, s, w => (impl_Poset_all.f p).bind fun t => if s = t then (if w.length ≤ 1000 then some [w] else none) else (impl_Poset_next.f F p s).bind fun l => if l.length ≤ 1000 then few_row (few_put F p d) s w l else none
theorem few_shl (e : Int) : shl .i64 1 e = IntKind.i64.wrap (2 ^ min e.toNat 64) := by
  unfold shl
  rw [Int.one_mul]
  rfl
theorem few_w64 (n : Nat) (h : n ≤ 1001) : wrap64 (n : Int) = (n : Int) := by
  unfold wrap64
  omega
theorem few_empty {X : World} {base n e sz : Nat} (hn : base ≤ n) (hx : X.heap[n]? = some (.cells #[] e (0, 0))) : X.ownsRow base e sz (.slice (some ⟨n, 0, none⟩) 0 0) 0 [] :=
  ⟨by simp, .inr ⟨n, 0, #[], rfl, hn, hx, by omega, by omega, by simp, by simp⟩⟩
theorem few_emptyR {α : Type} (d : Kd α) {X : World} {base n e : Nat} {ok : Nat → Prop} (hn : base ≤ n) (hx : X.heap[n]? = some (.cells #[] e (0, 0))) (hok : ok n) : d.R e X base ok (.slice (some ⟨n, 0, none⟩) 0 0) ([] : List α) :=
  ⟨fun k hk => by
    have : n = k := by simpa [Value.ownBlock] using hk
    exact this ▸ hok, [], few_empty hn hx, Reps.none _ _⟩
/-- The world in which the function is made. -/
def fewWorld (w2 : World) (c : Array Value) : World :=
  ((((w2.alloc (.cells #[] 22)).alloc (.cells #[] 3)).alloc (.cells #[.slice (some ⟨w2.heap.size, 0, none⟩) 0 0] 38)).alloc (.cells #[.slice (some ⟨w2.heap.size + 1, 0, none⟩) 0 0] 22)).alloc (.cells #[.func (.func 108) #[] c] 84)
theorem few_start {w w2 : World} {A : Option Addr} {c : Nat} {p : List Int} (hC : Kd.C (Kd.int .i64) w A p.length p) (hle : p.length ≤ c) (hb : Below w.heap.size w w2) (hp : w2.heap[w.heap.size]? = some (.cells #[.slice A p.length c] 28 (0, 0))) :
    ∃ S : FewA, S.Ok ∧ S.p = p ∧ S.w = w ∧ S.gp = w.heap.size ∧ S.go = w2.heap.size + 1 + 1 ∧ S.gw = w2.heap.size + 1 + 1 + 1 ∧ S.gf = w2.heap.size + 1 + 1 + 1 + 1 ∧
      FewI S (fun _ => False) (.slice (some ⟨w2.heap.size, 0, none⟩) 0 0) (.slice (some ⟨w2.heap.size + 1, 0, none⟩) 0 0) [] [] (fewWorld w2 S.caps) := by
  have hlt := blk_lt hp
  have hsz := hb.size
  refine ⟨⟨w.heap.size, w2.heap.size + 1 + 1, w2.heap.size + 1 + 1 + 1, w2.heap.size + 1 + 1 + 1 + 1, A, c, p, w⟩, ⟨hC, hle, Nat.le_refl _, by simp; omega, by simp; omega, by simp; omega, by simp; omega, by simp; omega, by simp; omega, by simp, by simp, by simp⟩, rfl, rfl, rfl, rfl, rfl, rfl, ?_⟩
  unfold FewA.caps fewWorld
  have k1 : ∀ a : Obj, (w2.alloc a).heap[w2.heap.size]? = some a := fun a => blk_new w2 a
  have k2 : ∀ a b : Obj, ((w2.alloc a).alloc b).heap[w2.heap.size + 1]? = some b := fun a b => by simpa using blk_new (w2.alloc a) b
  have k3 : ∀ a b c : Obj, (((w2.alloc a).alloc b).alloc c).heap[w2.heap.size + 1 + 1]? = some c := fun a b c => by simpa using blk_new ((w2.alloc a).alloc b) c
  have k4 : ∀ a b c d : Obj, ((((w2.alloc a).alloc b).alloc c).alloc d).heap[w2.heap.size + 1 + 1 + 1]? = some d := fun a b c d => by simpa using blk_new (((w2.alloc a).alloc b).alloc c) d
  have k5 : ∀ a b c d e : Obj, (((((w2.alloc a).alloc b).alloc c).alloc d).alloc e).heap[w2.heap.size + 1 + 1 + 1 + 1]? = some e := fun a b c d e => by simpa using blk_new ((((w2.alloc a).alloc b).alloc c).alloc d) e
  refine ⟨?_, ?_, ?_, ?_, ?_, ?_, ?_, fun k hk => hk.elim, ⟨id, id, id, id⟩⟩
  · exact below_alloc (below_alloc (below_alloc (below_alloc (below_alloc hb _) _) _) _) _
  · exact (blk_alloc (blk_alloc (blk_alloc (blk_alloc (blk_alloc hp _) _) _) _) _)
  · exact (blk_alloc (blk_alloc (k3 _ _ _) _) _)
  · exact (blk_alloc (k4 _ _ _ _) _)
  · exact k5 _ _ _ _ _
  · refine ⟨fun _ => 0, few_emptyR _ hsz ((blk_alloc (blk_alloc (blk_alloc (blk_alloc (k1 _) _) _) _) _)) ⟨⟨?_, ?_, ?_, ?_, id⟩, ?_⟩⟩
    · show w2.heap.size ≠ w.heap.size; omega
    · show w2.heap.size ≠ w2.heap.size + 1 + 1; omega
    · show w2.heap.size ≠ w2.heap.size + 1 + 1 + 1; omega
    · show w2.heap.size ≠ w2.heap.size + 1 + 1 + 1 + 1; omega
    · intro e
      simp [Value.ownBlock] at e
  · refine few_emptyR _ (Nat.le_succ_of_le hsz) ((blk_alloc (blk_alloc (blk_alloc (k2 _ _) _) _) _)) ⟨?_, ?_, ?_, ?_, id⟩
    · show w2.heap.size + 1 ≠ w.heap.size; omega
    · show w2.heap.size + 1 ≠ w2.heap.size + 1 + 1; omega
    · show w2.heap.size + 1 ≠ w2.heap.size + 1 + 1 + 1; omega
    · show w2.heap.size + 1 ≠ w2.heap.size + 1 + 1 + 1 + 1; omega
set_option maxHeartbeats 8000000 in
set_option maxRecDepth 100000 in
theorem few_all {S : FewA} (hS : S.Ok) {av : Nat → Prop} {vo vw : Value} {o : List (List Int)} {wl : List Int} {W : World} (h : FewI S av vo vw o wl W) (s : Int) (hal : impl_Poset_all.f S.p = some s) (hlen : wl.length ≤ 1000) (hol : (o.length + 1) * 24 ≤ 140737488355328) :
    Calls Try.prog 108 #[.int .i64 s, .pointer (some ⟨S.gp, 0, none⟩), .pointer (some ⟨S.go, 0, none⟩), .pointer (some ⟨S.gw, 0, none⟩), .pointer (some ⟨S.gf, 0, none⟩)] W fun e W' => e = .returned (.tuple #[]) ∧ ∃ vo', FewI S av vo' vw (o ++ [wl]) wl W' ∧ FewKeep av W W' := by
  have hu28 := Try.underlying28
  obtain ⟨Aw, cw, rfl, hlw, hCw⟩ := Kd.R_reads h.HW
  have hcp : W.cell? ⟨S.gp, 0, none⟩ = some (.slice S.A0 S.p.length S.c0) := (blk_cell h.cp 0).trans rfl
  have HALL := Aside0.mk (impl_Poset_all.calls S.A0 S.c0 S.p s W (Kd.C_below hS.C h.below) hS.le hal)
  have hco := blk_cell h.co 0
  have hcw := blk_cell h.cw 0
  have hfo := blk_frozen h.co 0
  have HI := Aside0.mk h
  have HLW := Aside0.mk hlw
  have HCW := Aside0.mk hCw
  have HL := Aside0.mk hlen
  have HOL := Aside0.mk hol
  clear h hlw hCw hlen hol hal
  go_enter Try.func108, Try.ntmps108
  go_wp2_with (go_at_call 83; (with_reducible refine HALL.out.mono ?_); rintro e W1 ⟨rfl, hb1⟩; have HI1 := Aside0.mk (HI.out.step hb1); have hco1 : W1.cell? ⟨S.go, 0, none⟩ = some vo := (blk_cell HI1.out.co 0).trans rfl; have hcw1 : W1.cell? ⟨S.gw, 0, none⟩ = some (.slice Aw wl.length cw) := (blk_cell HI1.out.cw 0).trans rfl;  have HCW1 := Aside0.mk (Kd.C_below HCW.out hb1); have HB1 := Aside0.mk hb1; clear hb1)
  refine wp_region_any (by kernel_rfl) ?_
  change wpAny _ _ _ _ _ _ _ (World.drew _)
  refine wpAny_ready (rs := [0, 1]) (by kernel_rfl) (by simp) ?_
  refine AllReady.cons rfl (fun K hK => ?_) ?_
  · -- 0
    go_simp
    refine hK _ _ ?_
    clear hK K
    refine wpAny_ready (rs := [1]) (by kernel_rfl) (by simp) ?_
    refine AllReady.cons rfl (fun K hK => ?_) ?_
    · -- 1
      go_simp
      refine hK _ _ ?_
      clear hK K
      refine wpAny_ready (rs := [2]) (by kernel_rfl) (by simp) ?_
      refine AllReady.cons rfl (fun K hK => ?_) ?_
      · -- 2
        go_simp
        go_at_call 94
        (with_reducible refine (slices_Clone_int_int.calls Aw cw wl wl _ (by (with_reducible repeat (first | apply Kd.C_drewN | apply Kd.C_drew)); exact HCW1.out) HLW.out (by unfold slices_Clone_int_int.f; rw [if_pos (by have := HL.out; omega)])).mono ?_)
        rintro e W2 ⟨v2, rfl, hr2, hb2⟩
        obtain ⟨A2, c2, rfl⟩ := Kd.R_slice hr2
        have HB2 : Aside0 (Below W1.heap.size W1 W2) := ⟨(below_drew (Below.refl W1.heap.size W1)).trans hb2⟩
        have HR2 : Aside0 (Kd.R (Kd.int .i64) 3 W2 W1.heap.size (fun _ => True) (.slice A2 wl.length c2) wl) := ⟨hr2⟩
        clear hr2 hb2
        have HI2 := Aside0.mk (HI1.out.step HB2.out)
        have hco2 : W2.cell? ⟨S.go, 0, none⟩ = some vo := (blk_cell HI2.out.co 0).trans rfl
        show K _ _
        refine hK _ _ ?_
        clear hK K
        refine wpAny_ready (rs := [3]) (by kernel_rfl) (by simp) ?_
        refine AllReady.cons rfl (fun K hK => ?_) ?_
        · -- 3
          go_simp
          have hco3 : (W2.alloc (.cells #[.slice A2 wl.length c2] 22)).cell? ⟨S.go, 0, none⟩ = some vo := (blk_cell (blk_alloc HI2.out.co _) 0).trans rfl
          refine hK _ _ ?_
          clear hK K
          refine wpAny_ready (rs := [4]) (by kernel_rfl) (by simp) ?_
          refine AllReady.cons rfl (fun K hK => ?_) ?_
          · -- 4
            refine Kd.S_append_step (Kd.slice 3 (Kd.int .i64)) (w0 := S.w) (W := W2) S.w.heap.size (by rfl) (.tmp 12) (.tmp 15) 38 22 (.slice none 0 0) 24 rfl Try.underlying38 info22 rfl (by decide) (by omega) vo o wl [.slice A2 wl.length c2] (fun k => S.ok av k ∧ some k ≠ (Value.slice Aw wl.length cw).ownBlock) (fun k => some k = (Value.slice A2 wl.length c2).ownBlock) rfl rfl ?_ (few_new hS HI1.out HR2.out) (fun k hk => ⟨HI2.out.far hS hk, HI2.out.vw_lt hk⟩) (few_old HI1.out HB2.out HR2.out) HI2.out.below HI2.out.below.size HOL.out ?_
            · exact Kd.M_row (Kd.R_tight rfl (Kd.R_lower HR2.out HI1.out.below.size))
            intro v1 w1 hs1 hb1_ hg1 hat1
            obtain ⟨A1, n1, c1, rfl⟩ : ∃ A n c, v1 = .slice A n c := by obtain ⟨A, c, e⟩ := Kd.S_slice hs1; exact ⟨A, _, c, e⟩
            have HP := Aside0.mk (HI2.out.put_out hS hs1 hb1_ hg1)
            have hco4 : w1.cell? ⟨S.go, 0, none⟩ = some vo := (blk_cell (HI2.out.go_kept hg1) 0).trans rfl
            have hfo4 := blk_frozen (HI2.out.go_kept hg1) 0
            clear hs1 hb1_ hg1 hat1
            show K (Act.put _ (some 16) _) w1
            refine hK _ _ ?_
            clear hK K
            refine wpAny_ready (rs := [5]) (by kernel_rfl) (by simp) ?_
            refine AllReady.cons rfl (fun K hK => ?_) ?_
            · -- 5
              go_simp
              refine hK _ _ ?_
              clear hK K
              refine wpAny_done (by kernel_rfl) ?_ _
              go_wp2
              exact bodyPost_ret (v := .tuple #[]) (by simp [results, Try.results108, go_sem]) rfl ⟨rfl, _, HP.out.1, (FewKeep.of_below HI.out.avlt HB1.out).trans ((FewKeep.of_below HI1.out.avlt HB2.out).trans HP.out.2)⟩
            exact AllReady.nil
          exact AllReady.nil
        exact AllReady.nil
      exact AllReady.nil
    exact AllReady.nil
  refine AllReady.cons rfl (fun K hK => ?_) ?_
  · -- 1
    go_simp
    refine hK _ _ ?_
    clear hK K
    refine wpAny_ready (rs := [0, 2]) (by kernel_rfl) (by simp) ?_
    refine AllReady.cons rfl (fun K hK => ?_) ?_
    · -- 0
      go_simp
      refine hK _ _ ?_
      clear hK K
      refine wpAny_ready (rs := [2]) (by kernel_rfl) (by simp) ?_
      refine AllReady.cons rfl (fun K hK => ?_) ?_
      · -- 2
        go_simp
        go_at_call 94
        (with_reducible refine (slices_Clone_int_int.calls Aw cw wl wl _ (by (with_reducible repeat (first | apply Kd.C_drewN | apply Kd.C_drew)); exact HCW1.out) HLW.out (by unfold slices_Clone_int_int.f; rw [if_pos (by have := HL.out; omega)])).mono ?_)
        rintro e W2 ⟨v2, rfl, hr2, hb2⟩
        obtain ⟨A2, c2, rfl⟩ := Kd.R_slice hr2
        have HB2 : Aside0 (Below W1.heap.size W1 W2) := ⟨(below_drew (Below.refl W1.heap.size W1)).trans hb2⟩
        have HR2 : Aside0 (Kd.R (Kd.int .i64) 3 W2 W1.heap.size (fun _ => True) (.slice A2 wl.length c2) wl) := ⟨hr2⟩
        clear hr2 hb2
        have HI2 := Aside0.mk (HI1.out.step HB2.out)
        have hco2 : W2.cell? ⟨S.go, 0, none⟩ = some vo := (blk_cell HI2.out.co 0).trans rfl
        show K _ _
        refine hK _ _ ?_
        clear hK K
        refine wpAny_ready (rs := [3]) (by kernel_rfl) (by simp) ?_
        refine AllReady.cons rfl (fun K hK => ?_) ?_
        · -- 3
          go_simp
          have hco3 : (W2.alloc (.cells #[.slice A2 wl.length c2] 22)).cell? ⟨S.go, 0, none⟩ = some vo := (blk_cell (blk_alloc HI2.out.co _) 0).trans rfl
          refine hK _ _ ?_
          clear hK K
          refine wpAny_ready (rs := [4]) (by kernel_rfl) (by simp) ?_
          refine AllReady.cons rfl (fun K hK => ?_) ?_
          · -- 4
            refine Kd.S_append_step (Kd.slice 3 (Kd.int .i64)) (w0 := S.w) (W := W2) S.w.heap.size (by rfl) (.tmp 12) (.tmp 15) 38 22 (.slice none 0 0) 24 rfl Try.underlying38 info22 rfl (by decide) (by omega) vo o wl [.slice A2 wl.length c2] (fun k => S.ok av k ∧ some k ≠ (Value.slice Aw wl.length cw).ownBlock) (fun k => some k = (Value.slice A2 wl.length c2).ownBlock) rfl rfl ?_ (few_new hS HI1.out HR2.out) (fun k hk => ⟨HI2.out.far hS hk, HI2.out.vw_lt hk⟩) (few_old HI1.out HB2.out HR2.out) HI2.out.below HI2.out.below.size HOL.out ?_
            · exact Kd.M_row (Kd.R_tight rfl (Kd.R_lower HR2.out HI1.out.below.size))
            intro v1 w1 hs1 hb1_ hg1 hat1
            obtain ⟨A1, n1, c1, rfl⟩ : ∃ A n c, v1 = .slice A n c := by obtain ⟨A, c, e⟩ := Kd.S_slice hs1; exact ⟨A, _, c, e⟩
            have HP := Aside0.mk (HI2.out.put_out hS hs1 hb1_ hg1)
            have hco4 : w1.cell? ⟨S.go, 0, none⟩ = some vo := (blk_cell (HI2.out.go_kept hg1) 0).trans rfl
            have hfo4 := blk_frozen (HI2.out.go_kept hg1) 0
            clear hs1 hb1_ hg1 hat1
            show K (Act.put _ (some 16) _) w1
            refine hK _ _ ?_
            clear hK K
            refine wpAny_ready (rs := [5]) (by kernel_rfl) (by simp) ?_
            refine AllReady.cons rfl (fun K hK => ?_) ?_
            · -- 5
              go_simp
              refine hK _ _ ?_
              clear hK K
              refine wpAny_done (by kernel_rfl) ?_ _
              go_wp2
              exact bodyPost_ret (v := .tuple #[]) (by simp [results, Try.results108, go_sem]) rfl ⟨rfl, _, HP.out.1, (FewKeep.of_below HI.out.avlt HB1.out).trans ((FewKeep.of_below HI1.out.avlt HB2.out).trans HP.out.2)⟩
            exact AllReady.nil
          exact AllReady.nil
        exact AllReady.nil
      exact AllReady.nil
    refine AllReady.cons rfl (fun K hK => ?_) ?_
    · -- 2
      go_simp
      go_at_call 94
      (with_reducible refine (slices_Clone_int_int.calls Aw cw wl wl _ (by (with_reducible repeat (first | apply Kd.C_drewN | apply Kd.C_drew)); exact HCW1.out) HLW.out (by unfold slices_Clone_int_int.f; rw [if_pos (by have := HL.out; omega)])).mono ?_)
      rintro e W2 ⟨v2, rfl, hr2, hb2⟩
      obtain ⟨A2, c2, rfl⟩ := Kd.R_slice hr2
      have HB2 : Aside0 (Below W1.heap.size W1 W2) := ⟨(below_drew (Below.refl W1.heap.size W1)).trans hb2⟩
      have HR2 : Aside0 (Kd.R (Kd.int .i64) 3 W2 W1.heap.size (fun _ => True) (.slice A2 wl.length c2) wl) := ⟨hr2⟩
      clear hr2 hb2
      have HI2 := Aside0.mk (HI1.out.step HB2.out)
      have hco2 : W2.cell? ⟨S.go, 0, none⟩ = some vo := (blk_cell HI2.out.co 0).trans rfl
      show K _ _
      refine hK _ _ ?_
      clear hK K
      refine wpAny_ready (rs := [0, 3]) (by kernel_rfl) (by simp) ?_
      refine AllReady.cons rfl (fun K hK => ?_) ?_
      · -- 0
        go_simp
        refine hK _ _ ?_
        clear hK K
        refine wpAny_ready (rs := [3]) (by kernel_rfl) (by simp) ?_
        refine AllReady.cons rfl (fun K hK => ?_) ?_
        · -- 3
          go_simp
          have hco3 : (W2.alloc (.cells #[.slice A2 wl.length c2] 22)).cell? ⟨S.go, 0, none⟩ = some vo := (blk_cell (blk_alloc HI2.out.co _) 0).trans rfl
          refine hK _ _ ?_
          clear hK K
          refine wpAny_ready (rs := [4]) (by kernel_rfl) (by simp) ?_
          refine AllReady.cons rfl (fun K hK => ?_) ?_
          · -- 4
            refine Kd.S_append_step (Kd.slice 3 (Kd.int .i64)) (w0 := S.w) (W := W2) S.w.heap.size (by rfl) (.tmp 12) (.tmp 15) 38 22 (.slice none 0 0) 24 rfl Try.underlying38 info22 rfl (by decide) (by omega) vo o wl [.slice A2 wl.length c2] (fun k => S.ok av k ∧ some k ≠ (Value.slice Aw wl.length cw).ownBlock) (fun k => some k = (Value.slice A2 wl.length c2).ownBlock) rfl rfl ?_ (few_new hS HI1.out HR2.out) (fun k hk => ⟨HI2.out.far hS hk, HI2.out.vw_lt hk⟩) (few_old HI1.out HB2.out HR2.out) HI2.out.below HI2.out.below.size HOL.out ?_
            · exact Kd.M_row (Kd.R_tight rfl (Kd.R_lower HR2.out HI1.out.below.size))
            intro v1 w1 hs1 hb1_ hg1 hat1
            obtain ⟨A1, n1, c1, rfl⟩ : ∃ A n c, v1 = .slice A n c := by obtain ⟨A, c, e⟩ := Kd.S_slice hs1; exact ⟨A, _, c, e⟩
            have HP := Aside0.mk (HI2.out.put_out hS hs1 hb1_ hg1)
            have hco4 : w1.cell? ⟨S.go, 0, none⟩ = some vo := (blk_cell (HI2.out.go_kept hg1) 0).trans rfl
            have hfo4 := blk_frozen (HI2.out.go_kept hg1) 0
            clear hs1 hb1_ hg1 hat1
            show K (Act.put _ (some 16) _) w1
            refine hK _ _ ?_
            clear hK K
            refine wpAny_ready (rs := [5]) (by kernel_rfl) (by simp) ?_
            refine AllReady.cons rfl (fun K hK => ?_) ?_
            · -- 5
              go_simp
              refine hK _ _ ?_
              clear hK K
              refine wpAny_done (by kernel_rfl) ?_ _
              go_wp2
              exact bodyPost_ret (v := .tuple #[]) (by simp [results, Try.results108, go_sem]) rfl ⟨rfl, _, HP.out.1, (FewKeep.of_below HI.out.avlt HB1.out).trans ((FewKeep.of_below HI1.out.avlt HB2.out).trans HP.out.2)⟩
            exact AllReady.nil
          exact AllReady.nil
        exact AllReady.nil
      refine AllReady.cons rfl (fun K hK => ?_) ?_
      · -- 3
        go_simp
        have hco3 : (W2.alloc (.cells #[.slice A2 wl.length c2] 22)).cell? ⟨S.go, 0, none⟩ = some vo := (blk_cell (blk_alloc HI2.out.co _) 0).trans rfl
        refine hK _ _ ?_
        clear hK K
        refine wpAny_ready (rs := [0]) (by kernel_rfl) (by simp) ?_
        refine AllReady.cons rfl (fun K hK => ?_) ?_
        · -- 0
          go_simp
          refine hK _ _ ?_
          clear hK K
          refine wpAny_ready (rs := [4]) (by kernel_rfl) (by simp) ?_
          refine AllReady.cons rfl (fun K hK => ?_) ?_
          · -- 4
            refine Kd.S_append_step (Kd.slice 3 (Kd.int .i64)) (w0 := S.w) (W := W2) S.w.heap.size (by rfl) (.tmp 12) (.tmp 15) 38 22 (.slice none 0 0) 24 rfl Try.underlying38 info22 rfl (by decide) (by omega) vo o wl [.slice A2 wl.length c2] (fun k => S.ok av k ∧ some k ≠ (Value.slice Aw wl.length cw).ownBlock) (fun k => some k = (Value.slice A2 wl.length c2).ownBlock) rfl rfl ?_ (few_new hS HI1.out HR2.out) (fun k hk => ⟨HI2.out.far hS hk, HI2.out.vw_lt hk⟩) (few_old HI1.out HB2.out HR2.out) HI2.out.below HI2.out.below.size HOL.out ?_
            · exact Kd.M_row (Kd.R_tight rfl (Kd.R_lower HR2.out HI1.out.below.size))
            intro v1 w1 hs1 hb1_ hg1 hat1
            obtain ⟨A1, n1, c1, rfl⟩ : ∃ A n c, v1 = .slice A n c := by obtain ⟨A, c, e⟩ := Kd.S_slice hs1; exact ⟨A, _, c, e⟩
            have HP := Aside0.mk (HI2.out.put_out hS hs1 hb1_ hg1)
            have hco4 : w1.cell? ⟨S.go, 0, none⟩ = some vo := (blk_cell (HI2.out.go_kept hg1) 0).trans rfl
            have hfo4 := blk_frozen (HI2.out.go_kept hg1) 0
            clear hs1 hb1_ hg1 hat1
            show K (Act.put _ (some 16) _) w1
            refine hK _ _ ?_
            clear hK K
            refine wpAny_ready (rs := [5]) (by kernel_rfl) (by simp) ?_
            refine AllReady.cons rfl (fun K hK => ?_) ?_
            · -- 5
              go_simp
              refine hK _ _ ?_
              clear hK K
              refine wpAny_done (by kernel_rfl) ?_ _
              go_wp2
              exact bodyPost_ret (v := .tuple #[]) (by simp [results, Try.results108, go_sem]) rfl ⟨rfl, _, HP.out.1, (FewKeep.of_below HI.out.avlt HB1.out).trans ((FewKeep.of_below HI1.out.avlt HB2.out).trans HP.out.2)⟩
            exact AllReady.nil
          exact AllReady.nil
        exact AllReady.nil
      exact AllReady.nil
    exact AllReady.nil
  exact AllReady.nil
set_option maxHeartbeats 8000000 in
set_option maxRecDepth 100000 in
theorem few_step {S : FewA} (hS : S.Ok) (F d : Nat) (t s : Int) (l wl : List Int) (out : List (List Int)) (hal : impl_Poset_all.f S.p = some t) (hst : ¬ s = t) (hnx : impl_Poset_next.f F S.p s = some l) (hl : l.length ≤ 1000) (hrow : few_row (few_put F S.p d) s wl l = some out)
    (ih : ∀ (s : Int) (wl : List Int) (out : List (List Int)), few_put F S.p d s wl = some out → ∀ {av : Nat → Prop} {vo vw : Value} {o : List (List Int)} {W : World}, FewI S av vo vw o wl W → (o.length + out.length) * 24 ≤ 140737488355328 →
      Calls Try.prog 108 #[.int .i64 s, .pointer (some ⟨S.gp, 0, none⟩), .pointer (some ⟨S.go, 0, none⟩), .pointer (some ⟨S.gw, 0, none⟩), .pointer (some ⟨S.gf, 0, none⟩)] W fun e W' => e = .returned (.tuple #[]) ∧ ∃ vo' vw', FewI S av vo' vw' (o ++ out) wl W' ∧ FewKeep av W W')
    {av : Nat → Prop} {vo vw : Value} {o : List (List Int)} {W : World} (h : FewI S av vo vw o wl W) (hol : (o.length + out.length) * 24 ≤ 140737488355328) :
    Calls Try.prog 108 #[.int .i64 s, .pointer (some ⟨S.gp, 0, none⟩), .pointer (some ⟨S.go, 0, none⟩), .pointer (some ⟨S.gw, 0, none⟩), .pointer (some ⟨S.gf, 0, none⟩)] W fun e W' => e = .returned (.tuple #[]) ∧ ∃ vo' vw', FewI S av vo' vw' (o ++ out) wl W' ∧ FewKeep av W W' := by
  have hu28 := Try.underlying28
  have hcp : W.cell? ⟨S.gp, 0, none⟩ = some (.slice S.A0 S.p.length S.c0) := (blk_cell h.cp 0).trans rfl
  have hst' : (s == t) = false := beq_eq_false_iff_ne.mpr hst
  have HALL := Aside0.mk (impl_Poset_all.calls S.A0 S.c0 S.p t W (Kd.C_below hS.C h.below) hS.le hal)
  have HI := Aside0.mk h
  have HOL := Aside0.mk hol
  have HNX := Aside0.mk hnx
  have HROW := Aside0.mk hrow
  have HL := Aside0.mk hl
  have IH := Aside0.mk @ih
  clear h hol hal hnx hrow hl ih hst
  go_enter Try.func108, Try.ntmps108
  go_wp2_with (first
    | (go_at_call 83; (with_reducible refine HALL.out.mono ?_); rintro e W1 ⟨rfl, hb1⟩; have HI1 := Aside0.mk (HI.out.step hb1); have hcp1 : W1.cell? ⟨S.gp, 0, none⟩ = some (.slice S.A0 S.p.length S.c0) := (blk_cell HI1.out.cp 0).trans rfl; have HB1 := Aside0.mk hb1; clear hb1)
    | (go_at_call 74; (with_reducible refine (impl_Poset_next.calls F S.A0 S.c0 S.p s l _ (Kd.C_below hS.C HI1.out.below) hS.le HNX.out).mono ?_); rintro e W2 ⟨vl, rfl, hr2, hb2⟩; obtain ⟨Al, cl, rfl⟩ := Kd.R_slice hr2; have HI2 := Aside0.mk (HI1.out.with_row hb2 hr2); have HB2 := Aside0.mk hb2; have HR2 := Aside0.mk hr2; clear hb2 hr2))
  go_loopg [21] (l.length + 1) (fun kq v21 w' => ∃ (i : Nat) (vo' vw' : Value) (o' rest : List (List Int)), v21 = .int .i64 (i : Int) ∧ Aside0 (kq + i = l.length + 1 ∧ i ≤ l.length) ∧ Aside0 (few_row (few_put F S.p d) s wl (l.drop i) = some rest) ∧ Aside0 (o' ++ rest = o ++ out) ∧ Aside0 (FewI S (fewAv av (.slice Al l.length cl)) vo' vw' o' wl w') ∧ Aside0 (FewKeep (fewAv av (.slice Al l.length cl)) W2 w'))
  case atStart => exact ⟨0, vo, vw, o, out, rfl, ⟨rfl, Nat.zero_le _⟩, HROW, ⟨rfl⟩, HI2, ⟨FewKeep.refl _ _⟩⟩
  case round =>
    obtain ⟨i, vo', vw', o', rest, rfl, HK, HRO, HEQ, HI3, HKP⟩ := hrel
    cases gk with
    | zero => exact absurd HK.out (by omega)
    | succ k1 =>
      obtain ⟨Aw, cw, rfl⟩ := Kd.R_slice HI3.out.HW
      have hcw' : wr.cell? ⟨S.gw, 0, none⟩ = some (.slice Aw wl.length cw) := (blk_cell HI3.out.cw 0).trans rfl
      have hfw' := blk_frozen HI3.out.cw 0
      by_cases hi : i < l.length
      · obtain ⟨e, hd⟩ : ∃ e, l.drop i = e :: l.drop (i + 1) := ⟨_, List.drop_eq_getElem_cons hi⟩
        obtain ⟨g, cap, ev, hgb, hgl, _⟩ := Kd.R_form HR2.out (by omega)
        injection ev with e1 e2 e3
        subst e1; subst e3
        clear e2
        have hcell : wr.cell? ⟨g, i, none⟩ = some (.int .i64 e) := by
          have := few_cell HR2.out HKP.out i hi
          rwa [(few_rd hd).2.1] at this
        have HRO' := HRO.out
        rw [hd] at HRO'
        unfold few_row at HRO'
        split at HRO'
        rotate_left
        · cases HRO'
        rename_i hew
        obtain ⟨o1, hA, HRO'⟩ := Option.bind_eq_some_iff.1 HRO'
        obtain ⟨o2, hB, HRO'⟩ := Option.bind_eq_some_iff.1 HRO'
        rw [few_shl] at hA
        have HSZ : Aside0 ((o'.length + o1.length) * 24 ≤ 140737488355328) := ⟨by have h1 := congrArg List.length HEQ.out; have h2 := congrArg List.length (Option.some.inj HRO'); have h3 := HOL.out; simp only [List.length_append] at h1 h2; omega⟩
        have HA := Aside0.mk hA
        have HB := Aside0.mk hB
        have HRE := Aside0.mk (Option.some.inj HRO')
        have HEW := Aside0.mk hew.2
        have he0 : (0 : Int) ≤ e := hew.1
        clear hA hB HRO' hew HRO hd
        have c1 : (0 : Int) ≤ (i : Int) := by omega
        have c2 : (i : Int) < (l.length : Int) := by omega
        have c3 : decide ((i : Int) < (l.length : Int)) = true := decide_eq_true c2
        have c5 : decide (i < l.length) = true := decide_eq_true hi
        have c4 := eq_true hi
        clear hi
        go_wp2_with ((with_reducible refine gate_builtin (b := .append) (xs := #[.tmp 25, .tmp 27]) rfl ?_); at_builtin; refine Kd.R_append (Kd.int .i64) (w0 := S.w) S.w.heap.size rfl (.tmp 25) (.tmp 27) 22 3 (.int .i64 0) 8 rfl Try.underlying22 info3 rfl (by decide) (by omega) (.slice Aw wl.length cw) wl e [.int .i64 e] (S.ok (fewAv av (.slice (some ⟨g, 0, none⟩) l.length cl))) (fun _ => False) rfl rfl ?aP (fun _ hk => hk.elim) ?aF ?aO ?aB ?aS ?aL ?_; (case aP => exact rfl); (case aB => exact HI3.out.below); (case aF => exact fun k hk => HI3.out.far hS hk); (case aO => exact HI3.out.HW); (case aS => exact HI3.out.below.size); (case aL => have := HEW.out; omega); intro v1 w1 hr1 hb1 hg1 hat1; obtain ⟨A1, n1, k1_, rfl⟩ : ∃ A n c, v1 = .slice A n c := (by obtain ⟨A, c, e⟩ := Kd.R_slice hr1; exact ⟨A, _, c, e⟩); have HP := Aside0.mk (HI3.out.put_w hS hr1 hb1 hg1 hat1); have hcw1 : w1.cell? ⟨S.gw, 0, none⟩ = some (.slice Aw wl.length cw) := (blk_cell (HI3.out.gw_kept hg1) 0).trans rfl; have hfw1 := blk_frozen (HI3.out.gw_kept hg1) 0; clear hr1 hb1 hg1 hat1)
        obtain ⟨W4, hW4⟩ : ∃ x, x = w1.setCell ⟨S.gw, 0, none⟩ (.slice A1 n1 k1_) := ⟨_, rfl⟩
        rw [← hW4]
        have HP4 := HP.out
        rw [← hW4] at HP4
        have HP5 := Aside0.mk HP4
        clear HP4 HP hW4 hcw1 hfw1 hcell hcw' hfw'
        have hcf4 : W4.cell? ⟨S.gf, 0, none⟩ = some (.func (.func 108) #[] S.caps) := (blk_cell HP5.out.1.cf 0).trans rfl
        unfold FewA.caps at hcf4
        go_region_with (go_at_call 108; (with_reducible refine (IH.out _ _ _ HA.out (HP5.out.1.step (below_drew (Below.refl _ _))) HSZ.out).mono ?_); rintro e' W5 ⟨rfl, vo2, vw2, hI5, hk5⟩; obtain ⟨A5, c5, rfl⟩ := Kd.R_slice hI5.HW; have hcw5 : W5.cell? ⟨S.gw, 0, none⟩ = some (.slice A5 (wl ++ [e]).length c5) := (blk_cell hI5.cw 0).trans rfl; have hfw5 := blk_frozen hI5.cw 0; have hlc5 := (Kd.R_reads' hI5.HW).2.1; have HI5 := Aside0.mk hI5; have HK5 := Aside0.mk hk5; clear hI5 hk5)
        rw [List.length_append, List.length_singleton] at hcw5 hlc5
        have hw5 : wrap64 (wl.length : Int) = (wl.length : Int) := few_w64 _ (Nat.le_succ_of_le HEW.out)
        have hwi : wrap64 ((i : Int) + 1) = ((i + 1 : Nat) : Int) := few_w64 (i + 1) (by have := HL.out; omega)
        have c6 : (0 : Int) ≤ (wl.length : Int) := by omega
        have c7 : (wl.length : Int) ≤ (c5 : Int) := by omega
        have c8 : (wl.length ≤ c5) = True := eq_true (by omega)
        go_wp2_with (fail)
        have HW5 := Aside0.mk (HI5.out.put_w hS (w1 := W5) (v1 := .slice A5 wl.length c5) (wl' := wl) (by have := Kd.R_take HI5.out.HW (m := wl.length) (by simp); simpa using this) HI5.out.below (World.grownBy.refl _ _) (.inl (by first | rfl | (cases A5 <;> rfl))))
        go_roundg k1
        case measure => omega
        case rel => exact ⟨i + 1, vo2, .slice A5 wl.length c5, o' ++ o1, o2, by rw [hwi], ⟨by have := HK.out; omega⟩, HB, ⟨by rw [List.append_assoc, HRE.out]; exact HEQ.out⟩, ⟨HW5.out.1⟩, ⟨HKP.out.trans (HP5.out.2.trans (FewKeep.trans (W2 := W5) HK5.out HW5.out.2))⟩⟩
      · have c3 : decide ((i : Int) < (l.length : Int)) = false := decide_eq_false (by omega)
        go_wp2_with (fail)
        have hil : i = l.length := by have := HK.out; omega
        have HRO' := HRO.out
        rw [hil, List.drop_length] at HRO'
        unfold few_row at HRO'
        have hre := Option.some.inj HRO'
        have hoo := HEQ.out
        rw [← hre, List.append_nil] at hoo
        exact bodyPost_end (v := .tuple #[]) (by simp [results, Try.results108, go_sem]) rfl ⟨rfl, vo', _, hoo ▸ HI3.out.forget, ((FewKeep.of_below HI.out.avlt HB1.out).trans (FewKeep.of_below HI1.out.avlt HB2.out)).trans HKP.out.forget⟩
theorem few_put_calls {S : FewA} (hS : S.Ok) (F : Nat) : ∀ (d : Nat) (s : Int) (wl : List Int) (out : List (List Int)), few_put F S.p d s wl = some out → ∀ (av : Nat → Prop) (vo vw : Value) (o : List (List Int)) (W : World), FewI S av vo vw o wl W → (o.length + out.length) * 24 ≤ 140737488355328 →
    Calls Try.prog 108 #[.int .i64 s, .pointer (some ⟨S.gp, 0, none⟩), .pointer (some ⟨S.go, 0, none⟩), .pointer (some ⟨S.gw, 0, none⟩), .pointer (some ⟨S.gf, 0, none⟩)] W fun e W' => e = .returned (.tuple #[]) ∧ ∃ vo' vw', FewI S av vo' vw' (o ++ out) wl W' ∧ FewKeep av W W'
  | 0, _, _, _, h => by cases h
  | d + 1, s, wl, out, h => by
    intro av vo vw o W hI hol
    unfold few_put at h
    obtain ⟨t, hal, h⟩ := Option.bind_eq_some_iff.1 h
    split at h
    · rename_i hst
      subst hst
      split at h
      rotate_left
      · cases h
      rename_i hlen
      obtain rfl := Option.some.inj h
      refine (few_all hS hI s hal hlen (by simpa using hol)).mono ?_
      rintro e W' ⟨rfl, vo', h1, h2⟩
      exact ⟨rfl, vo', _, h1, h2⟩
    · rename_i hst
      obtain ⟨l, hnx, h⟩ := Option.bind_eq_some_iff.1 h
      split at h
      rotate_left
      · cases h
      rename_i hl
      exact few_step hS F d t s l wl out hal hst hnx hl h (fun s wl out h av vo vw o W hI hs => few_put_calls hS F d s wl out h av vo vw o W hI hs) hI hol
def impl_few.f (k : Nat) (l0_0 : List Int) : Option (List (List Int) × Bool) :=
  (impl_IsPoset.f k l0_0).bind fun b => if b = true then ((impl_Poset_ways.f k l0_0).bind fun ways => if 0 < ways.length then (if rd ways 0 > 500 then some ([], false) else (few_put k l0_0 k 0 []).bind fun o => if o.length ≤ 1000 then some (o, true) else none) else none) else some ([], false)
theorem few_row_mono {g g' : Int → List Int → Option (List (List Int))} (h : ∀ s w, LeO (g s w) (g' s w)) (s : Int) (w : List Int) : ∀ l, LeO (few_row g s w l) (few_row g' s w l)
  | [] => LeO.refl _
  | e :: l => by
    unfold few_row
    exact LeO.ite (LeO.bind (h _ _) (fun _ => LeO.bind (few_row_mono h s w l) (fun _ => LeO.refl _))) (LeO.refl _)
theorem few_put_mono (p : List Int) (k : Nat) : ∀ d s w, LeO (few_put k p d s w) (few_put (k + 1) p (d + 1) s w)
  | 0, s, w => fun r h => by cases h
  | d + 1, s, w => by
    unfold few_put
    exact LeO.bind (LeO.refl _) (fun t => LeO.ite (LeO.refl _) (LeO.bind (impl_Poset_next.mono _ _ _) (fun l => LeO.ite (few_row_mono (fun s w => few_put_mono p k d s w) s w l) (LeO.refl _))))
theorem impl_few.mono : ∀ a0 k, LeO (impl_few.f k a0) (impl_few.f (k + 1) a0) := fun a0 k => by
  unfold impl_few.f
  exact LeO.bind (impl_IsPoset.mono _ _) (fun b => LeO.ite (LeO.bind (impl_Poset_ways.mono _ _) (fun ways => LeO.ite (LeO.ite (LeO.refl _) (LeO.bind (few_put_mono _ _ _ _ _) (fun _ => LeO.refl _))) (LeO.refl _))) (LeO.refl _))
set_option maxHeartbeats 8000000 in
set_option maxRecDepth 100000 in
theorem impl_few.calls (k : Nat) (A0_0 : Option Addr) (c0_0 : Nat) (l0_0 : List Int) (r1 : List (List Int)) (r2 : Bool) (w : World) (hr0_0 : Kd.C (Kd.int .i64) w A0_0 l0_0.length l0_0) (hc0_0 : l0_0.length ≤ c0_0) (h : impl_few.f k l0_0 = some (r1, r2)) :
    Calls Try.prog 91 #[.agg #[.slice A0_0 l0_0.length c0_0]] w fun e w' => ∃ v0_ : Value, e = .returned (.tuple #[v0_, .bool r2]) ∧ Kd.S (Kd.slice 3 (Kd.int .i64)) 22 w' w.heap.size (fun _ => True) v0_ r1 ∧ Below w.heap.size w w' := by
  have hu28 := Try.underlying28
  have hmf : ∀ (fn : Fn) (first cap : Array Value) (w : World), (Instr.makeFunc fn first cap).run Try.prog w = .ok (.func fn first cap) w := fun _ _ _ _ => rfl
  unfold impl_few.f at h
  obtain ⟨b, hb, h⟩ := Option.bind_eq_some_iff.1 h
  have HR := Aside0.mk hr0_0
  have HC := Aside0.mk hc0_0
  have HBP := Aside0.mk hb
  clear hr0_0 hc0_0 hb
  cases b
  · obtain ⟨rfl, rfl⟩ : [] = r1 ∧ false = r2 := by simpa using h
    clear h
    go_enter Try.func91, Try.ntmps91
    go_wp2_with (fail)
    refine (impl_IsPoset.calls k A0_0 c0_0 l0_0 false _ (by (with_reducible repeat (first | refine Kd.C_alloc ?_ _ | refine Kd.C_drewN ?_ _ | refine Kd.C_drew ?_)); exact HR.out) HC.out HBP.out).mono ?_
    rintro e w1 ⟨rfl, hb1⟩
    have HB1 := Aside0.mk hb1
    clear hb1
    go_wp2_with (fail)
    refine bodyPost_ret (results_tmp2 rfl _ _ _) rfl ?_
    exact ⟨_, rfl, ⟨fun _ => 0, Kd.R_nil _ _ _ _ _⟩, (below_alloc (Below.refl _ _) _).trans (HB1.out.mono (by simp))⟩
  · have h := (if_pos rfl).symm.trans h
    obtain ⟨ways, hw, h⟩ := Option.bind_eq_some_iff.1 h
    split at h
    rotate_left
    · cases h
    rename_i hlw
    have HW := Aside0.mk hw
    have HLW := Aside0.mk hlw
    clear hw hlw
    split at h
    · rename_i hgt
      obtain ⟨rfl, rfl⟩ : [] = r1 ∧ false = r2 := by simpa using h
      clear h
      have hgt' : decide (500 < rd ways 0) = true := decide_eq_true hgt
      go_enter Try.func91, Try.ntmps91
      go_wp2_with (fail)
      refine (impl_IsPoset.calls k A0_0 c0_0 l0_0 true _ (by (with_reducible repeat (first | refine Kd.C_alloc ?_ _ | refine Kd.C_drewN ?_ _ | refine Kd.C_drew ?_)); exact HR.out) HC.out HBP.out).mono ?_
      rintro e w1 ⟨rfl, hb1⟩
      have hP1 := blk_below (blk_new w (.cells #[.slice A0_0 l0_0.length c0_0] 28)) hb1
      have hp1 : w1.cell? ⟨w.heap.size, 0, none⟩ = some (.slice A0_0 l0_0.length c0_0) := (blk_cell hP1 0).trans rfl
      have HP1 := Aside0.mk hP1
      have HB1 := Aside0.mk ((below_alloc (Below.refl w.heap.size w) _).trans (hb1.mono (by simp)))
      clear hb1 hP1
      go_wp2_with (fail)
      refine (impl_Poset_ways.calls k A0_0 c0_0 l0_0 ways _ (Kd.C_below HR.out HB1.out) HC.out HW.out).mono ?_
      rintro e w2 ⟨vw, rfl, hrw, hb2⟩
      obtain ⟨gq, cq, rfl, _, _, _⟩ := Kd.R_form hrw HLW.out
      have hq2 := (Kd.R_cell (0 : Int) hrw 0 (by omega) (by have := HLW.out; omega)).1
      have hq3 : w2.cell? ⟨gq, 0, none⟩ = some (.int .i64 (rd ways 0)) := hq2
      have hP2 := Aside0.mk (blk_below HP1.out hb2)
      have HB2 := Aside0.mk (below_step HB1.out hb2)
      have hlw1 : (0 : Int) < (ways.length : Int) := by have := HLW.out; omega
      have hlw2 := HLW.out
      have hlw3 : decide (0 < ways.length) = true := decide_eq_true hlw2
      clear hb2 hrw hq2
      go_wp2_with (fail)
      refine bodyPost_ret (results_tmp2 rfl _ _ _) rfl ?_
      exact ⟨_, rfl, ⟨fun _ => 0, Kd.R_nil _ _ _ _ _⟩, HB2.out⟩
    · rename_i hgt
      have hgt' : decide (500 < rd ways 0) = false := decide_eq_false hgt
      obtain ⟨o, hput, h⟩ := Option.bind_eq_some_iff.1 h
      split at h
      rotate_left
      · cases h
      rename_i hol
      obtain ⟨rfl, rfl⟩ : o = r1 ∧ true = r2 := by simpa using h
      clear h
      have HPUT := Aside0.mk hput
      have HOL := Aside0.mk hol
      clear hput hol
      go_enter Try.func91, Try.ntmps91
      go_wp2_with (fail)
      refine (impl_IsPoset.calls k A0_0 c0_0 l0_0 true _ (by (with_reducible repeat (first | refine Kd.C_alloc ?_ _ | refine Kd.C_drewN ?_ _ | refine Kd.C_drew ?_)); exact HR.out) HC.out HBP.out).mono ?_
      rintro e w1 ⟨rfl, hb1⟩
      have hP1 := blk_below (blk_new w (.cells #[.slice A0_0 l0_0.length c0_0] 28)) hb1
      have hp1 : w1.cell? ⟨w.heap.size, 0, none⟩ = some (.slice A0_0 l0_0.length c0_0) := (blk_cell hP1 0).trans rfl
      have HP1 := Aside0.mk hP1
      have HB1 := Aside0.mk ((below_alloc (Below.refl w.heap.size w) _).trans (hb1.mono (by simp)))
      clear hb1 hP1
      go_wp2_with (fail)
      refine (impl_Poset_ways.calls k A0_0 c0_0 l0_0 ways _ (Kd.C_below HR.out HB1.out) HC.out HW.out).mono ?_
      rintro e w2 ⟨vw, rfl, hrw, hb2⟩
      obtain ⟨gq, cq, rfl, _, _, _⟩ := Kd.R_form hrw HLW.out
      have hq2 := (Kd.R_cell (0 : Int) hrw 0 (by omega) (by have := HLW.out; omega)).1
      have hq3 : w2.cell? ⟨gq, 0, none⟩ = some (.int .i64 (rd ways 0)) := hq2
      have hP2 := Aside0.mk (blk_below HP1.out hb2)
      have HB2 := Aside0.mk (below_step HB1.out hb2)
      have hlw1 : (0 : Int) < (ways.length : Int) := by have := HLW.out; omega
      have hlw2 := HLW.out
      have hlw3 : decide (0 < ways.length) = true := decide_eq_true hlw2
      clear hb2 hrw hq2
      obtain ⟨S, hS, rfl, hSw, e1, e2, e3, e4, hI⟩ := few_start HR.out HC.out HB2.out hP2.out
      have HS := Aside0.mk hS
      have hcaps : S.caps = #[.pointer (some ⟨w.heap.size, 0, none⟩), .pointer (some ⟨w2.heap.size + 1 + 1, 0, none⟩), .pointer (some ⟨w2.heap.size + 1 + 1 + 1, 0, none⟩), .pointer (some ⟨w2.heap.size + 1 + 1 + 1 + 1, 0, none⟩)] := by unfold FewA.caps; rw [e1, e2, e3, e4]
      have hcall := few_put_calls hS k k 0 [] o HPUT.out (fun _ => False) _ _ [] _ hI (by have := HOL.out; simp; omega)
      unfold fewWorld at hcall
      rw [hcaps, e1, e2, e3, e4] at hcall
      have HCALL := Aside0.mk hcall
      clear hcall hI hS
      go_wp2_with (fail)
      refine HCALL.out.mono ?_
      rintro e W5 ⟨rfl, vo', vw', h5, h6⟩
      obtain ⟨A5, n5, c5, rfl⟩ : ∃ A n c, vo' = .slice A n c := by obtain ⟨A, c, e⟩ := Kd.S_slice h5.HO; exact ⟨A, _, c, e⟩
      have hco5 : W5.cell? ⟨w2.heap.size + 1 + 1, 0, none⟩ = some (.slice A5 n5 c5) := by rw [← e2]; exact (blk_cell h5.co 0).trans rfl
      have H5 := Aside0.mk h5
      clear h5 h6 HCALL
      go_wp2_with (fail)
      refine bodyPost_ret (results_tmp2 rfl _ _ _) rfl ⟨_, rfl, ?_, ?_⟩
      · have := H5.out.HO
        rw [hSw, List.nil_append] at this
        exact Kd.S_mono this (fun _ _ => trivial)
      · have := H5.out.below
        rwa [hSw] at this
end Go.Proofs.Ytjahclncpgllmaa.F
end

section
namespace Go.Proofs.Ytjahclncpgllmaa.F
open Go.RowKit Go.Proofs.YtjahclncpgllmaaW.PrintWords Go.Proofs.YtjahclncpgllmaaW.PrintLast Go.Proofs.YtjahclncpgllmaaW.PrintMore
attribute [local go_sem] max2_int min2_int max_two min_two max_three min_three max_four min_four
set_option linter.unusedVariables false
set_option linter.unusedSimpArgs false

/-! ### impl_AllLinear: function 49 -/
def impl_AllLinear.f (k : Nat) (l0_0 : List Int) : Option ((List (List Int)) × Bool) := (impl_few.f k l0_0).bind fun bt1060 => (some (bt1060.1, bt1060.2))
theorem impl_AllLinear.mono : ∀ a0 k, LeO (impl_AllLinear.f k a0) (impl_AllLinear.f (k + 1) a0) := by
  intro a0 k
  unfold impl_AllLinear.f
  repeat' first
      | (with_reducible exact impl_few.mono _ _)
      | (with_reducible exact LeO.refl _)
      | (with_reducible exact LeO.none _)
      | (with_reducible refine LeO.ite ?_ ?_)
      | (with_reducible refine LeO.bind ?_ (fun _ => ?_))
      | exact impl_few.mono _ _
      | exact LeO.none _
      | refine LeO.ite ?_ ?_
      | refine LeO.bind ?_ (fun _ => ?_)
set_option maxHeartbeats 8000000 in
set_option maxRecDepth 100000 in
theorem impl_AllLinear.calls (k : Nat) (A0_0 : Option Addr) (c0_0 : Nat) (l0_0 : List Int) (r1 : List (List Int)) (r2 : Bool) (w : World) (hr0_0 : Kd.C (Kd.int .i64) w A0_0 l0_0.length l0_0) (hc0_0 : l0_0.length ≤ c0_0) (h : impl_AllLinear.f k l0_0 = some (r1, r2)) :
    Calls Try.prog 49 #[.agg #[.slice A0_0 l0_0.length c0_0]] w fun e w' => ∃ v0_ : Value, e = .returned (.tuple #[v0_, .bool r2]) ∧ Kd.S (Kd.slice 3 (Kd.int .i64)) 22 w' w.heap.size (fun _ => True) v0_ r1 ∧ Below w.heap.size w w' := by
  have hu28 := Try.underlying28
  have HR0_0 := Aside0.mk hr0_0
  have HC0_0 := Aside0.mk hc0_0
  clear hr0_0 hc0_0
  have HB := Aside0.mk (Below.refl w.heap.size w)
  have H : ((impl_few.f k l0_0).bind fun bt1060 => (some (bt1060.1, bt1060.2))) = some (r1, r2) := h
  clear h
  replace H := Option.bind_eq_some_iff.mp H
  obtain ⟨⟨t1060, t1063⟩, A20, H⟩ := H
  replace H : (some (t1060, t1063)) = some (r1, r2) := H
  have A2 := Aside0.mk A20
  clear A20
  simp only [Option.some.injEq, Prod.mk.injEq] at H
  obtain ⟨rfl, rfl⟩ := H
  go_enter Try.func49, Try.ntmps49
  go_wp2_with (first | ((with_reducible refine gate_dst (N := 1) rfl ?_); refine box_event ?hg (N := 1) ?hd (cs := #[.slice A0_0 l0_0.length c0_0]) (t := 28) ?hr ?_; (case hd => rfl); (case hg => rfl); (case hr => first | (go_simp; done) | (go_simp; rfl)); intro gb1059 hg w3 hbox hb; have n0_ := Aside0.mk (below_step (by repeat (first | (with_reducible first | exact HB.out | apply below_alloc | apply pw_below_drewN | apply below_drew1) | exact HB.out)) hb); have n1_ := Aside0.mk (hbox); have n2_ := Aside0.mk ((by rw [hg]; exact (below_size (by repeat (first | (with_reducible first | exact HB.out | apply below_alloc | apply pw_below_drewN | apply below_drew1) | exact HB.out))) : w.heap.size ≤ gb1059)); have n3_ := Aside0.mk ((by rw [hg]; exact (below_size (by repeat (first | (with_reducible first | exact HB.out | apply below_alloc | apply pw_below_drewN | apply below_drew1) | exact HB.out))) : w.heap.size ≤ gb1059)); clear HB; have HB := n0_; have BK1059 := n1_; have GW1059 := n2_; have GE1059 := n3_; clear n0_ n1_ n2_ n3_; clear hb hbox hg; have hcz4_0 : w3.cell? ⟨gb1059, 0, none⟩ = some (.slice A0_0 l0_0.length c0_0) := (blk_cell BK1059.out 0).trans rfl; have hfz4_0 := blk_frozen BK1059.out 0) | ((with_reducible refine gate_callee (f := 91) rfl ?_); refine goesL_ (some 5) rfl rfl Try.func91 (by kernel_rfl) rfl #[.agg #[.slice A0_0 l0_0.length c0_0]] rfl (by (try simp only [List.map_toArray, List.map_cons, List.map_nil]); first | done | rfl | (simp only [List.length_drop, List.length_take]; rfl)) ?_; (with_reducible refine (impl_few.calls k _ _ l0_0 t1060 t1063 _ ?side1 ?side2 A2.out).mono ?_); (case side1 => repeat (first | exact (Kd.C_below HR0_0.out HB.out) | (with_reducible refine Kd.C_alloc ?_ _) | (with_reducible refine Kd.C_drewN ?_ _) | (with_reducible refine Kd.C_drew ?_))); (case side2 => exact HC0_0.out); rintro e w5 ⟨v1061, rfl, ho0, hb⟩; refine ⟨_, rfl, ?_⟩; have n0_ := Aside0.mk (Kd.S_lower ho0 (below_size (by repeat (first | (with_reducible first | exact HB.out | apply below_alloc | apply pw_below_drewN | apply below_drew1 | refine below_set ?_ GE1059.out) | exact HB.out)))); have n1_ := Aside0.mk (blk_below (g := gb1059) (o := .cells #[.slice A0_0 l0_0.length c0_0] 28 (0, 0)) (by (with_reducible repeat (first | refine blk_drewN ?_ _ | refine blk_drew ?_ | refine blk_alloc ?_ _)); exact BK1059.out) hb); have n2_ := Aside0.mk (below_step (by repeat (first | (with_reducible first | exact HB.out | apply below_alloc | apply pw_below_drewN | apply below_drew1 | refine below_set ?_ GE1059.out) | exact HB.out)) hb); clear BK1059; clear HB; have HO1062 := n0_; have BK1059 := n1_; have HB := n2_; clear n0_ n1_ n2_; (try clear hb); (try clear hb2); (try clear hk); (try clear hi); (try clear ho0)))
  go_ret2
  exact ⟨_, by first | rfl | (simp [errW_none, errW_some] <;> rfl) | (simp [*, errW_none, errW_some] <;> rfl), by (with_reducible repeat (first | apply Kd.S_alloc | apply Kd.S_drewN | apply Kd.S_drew)); exact HO1062.out, by repeat (first | (with_reducible first | exact HB.out | apply below_alloc | apply pw_below_drewN | apply below_drew1 | refine below_set ?_ GE1059.out) | exact HB.out)⟩

end Go.Proofs.Ytjahclncpgllmaa.F
end

section
namespace Go.Proofs.Ytjahclncpgllmaa.Q
open Go.RowKit Go.Proofs.YtjahclncpgllmaaW.PrintWords Go.Proofs.Ytjahclncpgllmaa.F
set_option linter.unusedVariables false
/-- All orders from a set on. -/
def allW (p : List Int) : Nat → Nat → List (List Nat)
  | 0, _ => [[]]
  | d + 1, s => (nextN p s).flatMap fun e => (allW p d (s ||| 2 ^ e)).map (e :: ·)
theorem pick_range (p : List Int) (s : Nat) (g : Nat → Nat → List Nat) : ∀ l : List Nat,
    (List.range (sumL (l.map fun e => ways p (s ||| 2 ^ e)))).map (fun r => (pick p s l r).1 :: g (s ||| 2 ^ (pick p s l r).1) (pick p s l r).2) = l.flatMap fun e => (List.range (ways p (s ||| 2 ^ e))).map fun r => e :: g (s ||| 2 ^ e) r := by
  intro l
  induction l with
  | nil => rfl
  | cons e l ih =>
    simp only [List.map_cons, sumL, List.flatMap_cons]
    rw [List.range_add, List.map_append, List.map_map, ← ih]
    congr 1
    · refine List.map_congr_left fun r hr => ?_
      have hr := List.mem_range.1 hr
      simp only [pick, if_pos hr]
    · refine List.map_congr_left fun r hr => ?_
      simp only [Function.comp, pick]
      rw [if_neg (by omega), Nat.add_sub_cancel_left]
theorem allW_eq {p : List Int} (hp : PO p) : ∀ (d s : Nat), s < 2 ^ p.length → pcard p.length s + d = p.length → allW p d s = (List.range (ways p s)).map (linW p d s) := by
  intro d
  induction d with
  | zero =>
    intro s hs hc
    rw [all_of_pcard hs (by omega), ways_all]
    rfl
  | succ d ih =>
    intro s hs hc
    have hall : s ≠ allN p := by
      intro e
      rw [e, pcard_all] at hc; omega
    rw [ways_step hs hall]
    have h := pick_range p s (linW p d) (nextN p s)
    refine Eq.trans ?_ h.symm
    unfold allW
    rw [List.flatMap_def, List.flatMap_def]
    congr 1
    refine List.map_congr_left fun e he => ?_
    obtain ⟨_, m1, m2, _⟩ := mem_nextN.1 he
    rw [ih _ (or_lt hs (pow_lt_pow m1)) (by rw [pcard_add m1 m2]; omega), List.map_map]
    rfl
theorem allW_len {p : List Int} : ∀ (d s : Nat), ∀ w ∈ allW p d s, w.length = d := by
  intro d
  induction d with
  | zero => intro s w hw; unfold allW at hw; rw [List.mem_singleton.1 hw]; rfl
  | succ d ih =>
    intro s w hw
    unfold allW at hw
    obtain ⟨e, _, hw⟩ := List.mem_flatMap.1 hw
    obtain ⟨v, hv, rfl⟩ := List.mem_map.1 hw
    rw [List.length_cons, ih _ _ hv]
theorem few_row_ev {g : Nat → Int → List Int → Option (List (List Int))} {p : List Int} {d s : Nat} {w : List Int} (hw : w.length ≤ 1000) (hs : s < 2 ^ 61) : ∀ l : List Nat, (∀ e ∈ l, e < 61 ∧ Ev (fun k => g k ((s ||| 2 ^ e : Nat) : Int) (w ++ [(e : Int)])) ((allW p d (s ||| 2 ^ e)).map fun v => (w ++ [(e : Int)]) ++ ints v)) →
    Ev (fun k => few_row (g k) (s : Int) w (ints l)) ((l.flatMap fun e => (allW p d (s ||| 2 ^ e)).map (e :: ·)).map fun v => w ++ ints v) := by
  intro l
  induction l with
  | nil => intro _; exact Ev.ret rfl
  | cons e l ih =>
    intro h
    obtain ⟨he, hg⟩ := h e List.mem_cons_self
    have h2 := ih (fun x hx => h x (List.mem_cons_of_mem _ hx))
    have e1 : ints (e :: l) = (e : Int) :: ints l := rfl
    rw [e1]
    simp only [few_row]
    refine Ev.yes ⟨by omega, hw⟩ ?_
    rw [shlN (by omega), bits_orN (Nat.lt_trans hs (by decide)) (Nat.pow_lt_pow_right (by decide) (by omega))]
    refine Ev.bind hg (Ev.bind h2 (Ev.ret ?_))
    rw [List.flatMap_cons, List.map_append, List.map_map]
    congr 1
    refine List.map_congr_left fun v _ => ?_
    show (w ++ [(e : Int)]) ++ ints v = w ++ ints (e :: v)
    rw [List.append_assoc]; rfl
theorem few_put_ev {p : List Int} (hp : PO p) : ∀ (d s : Nat) (w : List Int), s < 2 ^ p.length → idealB p s = true → pcard p.length s = w.length → w.length + d = p.length →
    Ev (fun k => few_put k p (k + (d + 1)) (s : Int) w) ((allW p d s).map fun v => w ++ ints v) := by
  have hn := hp.small
  intro d
  induction d with
  | zero =>
    intro s w hs hid hc hd
    have hall : s = allN p := all_of_pcard hs (by omega)
    simp only [few_put]
    refine Ev.call (all_eq (by omega)) (Ev.yes (show ((s : Nat) : Int) = ((allN p : Nat) : Int) from by rw [hall]) (Ev.yes (by omega) (Ev.ret ?_)))
    simp [allW, ints]
  | succ d ih =>
    intro s w hs hid hc hd
    have hall : s ≠ allN p := by
      intro e
      rw [e, pcard_all] at hc; omega
    simp only [few_put]
    refine Ev.call (all_eq (by omega)) (Ev.no (show ¬ (((s : Nat) : Int) = ((allN p : Nat) : Int)) from fun h => hall (by exact_mod_cast h)) (Ev.bind (next_ev hp hs) (Ev.yes ?_ ?_)))
    · rw [ints_len]
      have : (nextN p s).length ≤ 10 := by unfold nextN; exact Nat.le_trans (List.length_filter_le _ _) (by simp)
      omega
    · have := few_row_ev (g := fun k => few_put k p (k + (d + 1))) (p := p) (d := d) (w := w) (by omega) (lt_pow hs (by omega)) (nextN p s) (fun e he => by
        obtain ⟨_, m1, m2, _⟩ := mem_nextN.1 he
        refine ⟨by omega, ?_⟩
        exact ih (s ||| 2 ^ e) (w ++ [(e : Int)]) (or_lt hs (pow_lt_pow m1)) (idealB_add hp hid he) (by rw [pcard_add m1 m2, hc, List.length_append, List.length_singleton]) (by rw [List.length_append, List.length_singleton]; omega))
      exact this
theorem few_put_monoF (p : List Int) (k : Nat) : ∀ d s w, LeO (few_put k p d s w) (few_put (k + 1) p d s w)
  | 0, s, w => fun r h => by cases h
  | d + 1, s, w => by
    unfold few_put
    exact LeO.bind (LeO.refl _) (fun t => LeO.ite (LeO.refl _) (LeO.bind (impl_Poset_next.mono _ _ _) (fun l => LeO.ite (few_row_mono (fun s w => few_put_monoF p k d s w) s w l) (LeO.refl _))))
/-- All orders, the first ranks first. -/
def rowsTo (p : List Int) (r : Nat) : List (List Int) := (List.range r).map fun r => ints (linW p p.length 0 r)
theorem rowsTo_len (p : List Int) (r : Nat) : (rowsTo p r).length = r := by simp [rowsTo]
theorem rowsTo_mem {p : List Int} {r : Nat} : ∀ q ∈ rowsTo p r, q.length = p.length := by
  intro q hq
  obtain ⟨x, _, rfl⟩ := List.mem_map.1 hq
  rw [ints_len, linW_len]
theorem few_all_ev {p : List Int} (hp : PO p) : Ev (fun k => few_put k p k 0 []) (rowsTo p (ways p 0)) := by
  have h := few_put_ev hp p.length 0 [] (Nat.two_pow_pos _) (idealB_zero p) (by rw [pcard_zero]; rfl) (by simp)
  rw [allW_eq hp p.length 0 (Nat.two_pow_pos _) (by rw [pcard_zero]; omega), List.map_map] at h
  obtain ⟨K, h⟩ := h
  refine ⟨K + (p.length + 1), fun k hk => ?_⟩
  have h1 := h (k - (p.length + 1)) (by omega)
  dsimp only at h1
  rw [show k - (p.length + 1) + (p.length + 1) = k by omega] at h1
  have h2 := at_rounds (g := fun F => few_put F p k 0 []) (fun F => few_put_monoF p F k 0 []) (show k - (p.length + 1) ≤ k by omega) h1
  refine Eq.trans h2 ?_
  rfl
theorem first_way {p : List Int} (hp : PO p) : rd (Wl p 0) 0 = ((ways p 0 : Nat) : Int) := by
  refine (rdN (Wl p 0) 0).trans ?_
  rw [Wl_get p 0 (Nat.two_pow_pos _)]; unfold wayAt; rw [if_pos (Nat.le_refl _), if_pos (idealB_zero p)]
theorem first_cnt {p : List Int} (hp : PO p) : rd (Cl p 0) 0 = ((ways p 0 : Nat) : Int) := (rdN (Cl p 0) 0).trans (Cl_at (Nat.two_pow_pos _))
/-- The program's list. -/
theorem few_ev (p : List Int) : Ev (fun k => impl_few.f k p) (if isPo p = true ∧ ways p 0 ≤ 500 then (rowsTo p (ways p 0), true) else ([], false)) := by
  unfold impl_few.f
  refine Ev.bind (IsPoset_ev p) ?_
  cases hpo : isPo p with
  | false => exact Ev.no (by simp) (Ev.ret (by simp))
  | true =>
    have hP := (isPo_iff p).1 hpo
    have h2 : 0 < 2 ^ p.length := Nat.two_pow_pos _
    refine Ev.yes rfl (Ev.bind (ways_table hP) (Ev.yes (by rw [Wl_len]; omega) ?_))
    rw [first_way hP]
    by_cases hw : ways p 0 ≤ 500
    · rw [if_pos ⟨rfl, hw⟩]
      exact Ev.no (by omega) (Ev.bind (few_all_ev hP) (Ev.yes (by rw [rowsTo_len]; omega) (Ev.now _)))
    · rw [if_neg (fun h => hw h.2)]
      exact Ev.yes (by omega) (Ev.now _)
/-- The reference's list. -/
theorem liAll_run {p : List Int} (hp : PO p) (hw : ways p 0 ≤ 500) : ∀ r, r ≤ ways p 0 → Ev (fun k => spec_liAll.l0 k (Cl p 0) (rowsTo p r) (r : Int) p) (rowsTo p (ways p 0), true) := by
  have h2 : 0 < 2 ^ p.length := Nat.two_pow_pos _
  refine downTo _ ?_ ?_
  · refine Ev.step (by intro k; simp only [spec_liAll.l0]; rfl) (Ev.yes (by rw [Cl_len]; omega) ?_)
    rw [first_cnt hp]
    exact Ev.no (by omega) (Ev.now _)
  · intro r hr ih
    refine Ev.step (by intro k; simp only [spec_liAll.l0]; rfl) (Ev.yes (by rw [Cl_len]; omega) ?_)
    rw [first_cnt hp]
    refine Ev.yes (by omega) (Ev.bind (liWith_ev hp hr) (Ev.yes (by rw [rowsTo_len]; omega) ?_))
    rw [wid (by omega) (by omega)]
    have e : rowsTo p r ++ [ints (linW p p.length 0 r)] = rowsTo p (r + 1) := by unfold rowsTo; rw [List.range_succ, List.map_append]; rfl
    rw [e]
    exact ih
theorem liAll_ev {p : List Int} (hp : PO p) : Ev (fun k => spec_liAll.f k p) (if ways p 0 ≤ 500 then (rowsTo p (ways p 0), true) else ([], false)) := by
  unfold spec_liAll.f
  have h2 : 0 < 2 ^ p.length := Nat.two_pow_pos _
  refine Ev.bind (liCounts_ev hp) (Ev.yes (by rw [Cl_len]; omega) ?_)
  rw [first_cnt hp]
  by_cases hw : ways p 0 ≤ 500
  · rw [if_pos hw]
    exact Ev.no (by omega) (liAll_run hp hw 0 (Nat.zero_le _))
  · rw [if_neg hw]
    exact Ev.yes (by omega) (Ev.now _)
end Go.Proofs.Ytjahclncpgllmaa.Q
end

section
namespace Go.Proofs.Ytjahclncpgllmaa.F
open Go.RowKit Go.Proofs.YtjahclncpgllmaaW.PrintWords Go.Proofs.YtjahclncpgllmaaW.PrintLast Go.Proofs.YtjahclncpgllmaaW.PrintMore
set_option linter.unusedVariables false
set_option linter.unusedSimpArgs false
theorem laws_FnExactAllLinear.belowD {w w' : World} (h : Drawn0 w w') : Below w.heap.size w w' := by
  obtain ⟨m, rfl⟩ := h
  exact pw_below_drewN (Below.refl _ _) m
set_option maxHeartbeats 8000000 in
set_option maxRecDepth 100000 in
theorem laws_FnExactAllLinear.calls0 (k k1 : Nat) (A0 : Option Addr) (c0 : Nat) (l0 : List Int) (z1 : Int) (w : World) (hr0 : Kd.C (Kd.int .i64) w A0 l0.length l0) (hc0 : l0.length ≤ c0) (hy0_ : laws_szPoset.f l0 1048576 = some z1) (hx : decide (z1 < 0) = true) :
    Calls Try.prog 13 #[.agg #[.slice A0 l0.length c0]] w fun e w' => e = .returned (.bool true) ∧ Below w.heap.size w w' := by
  have HR0 := Aside0.mk hr0
  have HC0 := Aside0.mk hc0
  clear hr0 hc0
  have hy0 := Aside0.mk hy0_
  clear hy0_
  have HT0 := Aside0.mk (Below.refl w.heap.size w)
  go_enter Try.func13, Try.ntmps13
  go_wp2_with (first | ((with_reducible refine gate_dst (N := 1) rfl ?_); refine box_event ?hg (N := 1) ?hd (cs := #[.slice A0 l0.length c0]) (t := 24) ?hr ?_; (case hd => rfl); (case hg => rfl); (case hr => first | (go_simp; done) | (go_simp; rfl)); intro g1 hg_ w1 hbox_ hb_; have HB1 := Aside0.mk hb_; have HZ1 : Aside0 (w.heap.size ≤ w1.heap.size) := ⟨hb_.size⟩; have HT1 := Aside0.mk (HT0.out.trans (Below.mono hb_ HT0.out.size)); have HG1 : Aside0 (w.heap.size ≤ g1 ∧ g1 < w1.heap.size) := ⟨Nat.le_of_eq hg_.symm, blk_lt hbox_⟩; have HBK_ := Aside0.mk hbox_; clear hb_ hbox_ hg_; have HBK1 := HBK_; clear HBK_; have hcz1 : w1.cell? ⟨g1, 0, none⟩ = some (.slice A0 l0.length c0) := (blk_cell HBK1.out 0).trans rfl; have hfz1 := blk_frozen HBK1.out 0))
  have hcall_ := laws_szPoset.calls _ _ l0 1048576 z1 _ (Kd.C_below HR0.out HT1.out) HC0.out hy0.out
  refine hcall_.mono ?_
  clear hcall_ 
  rintro e w2 ⟨rfl, hb_⟩
  have HB2 := Aside0.mk hb_
  have HZ2 : Aside0 (w1.heap.size ≤ w2.heap.size) := ⟨hb_.size⟩
  have HT2 := Aside0.mk (HT1.out.trans (Below.mono hb_ HT1.out.size))
  clear hb_
  have n_ := Aside0.mk (blk_below HBK1.out HB2.out)
  clear HBK1 hcz1
  have HBK1 := n_
  clear n_
  have hcz1 : w2.cell? ⟨g1, 0, none⟩ = some (.slice A0 l0.length c0) := (blk_cell HBK1.out 0).trans rfl
  go_wp2
  go_ret
  exact ⟨by first | rfl | (simp; done) | (simp [*]; done), by repeat (first | (with_reducible first | exact HT2.out | apply below_alloc | apply pw_below_drewN | apply below_drew1) | exact HT2.out)⟩
set_option maxHeartbeats 8000000 in
set_option maxRecDepth 100000 in
theorem laws_FnExactAllLinear.calls1 (k k1 : Nat) (A0 : Option Addr) (c0 : Nat) (l0 : List Int) (z1 : Int) (v2 : List (List Int)) (v3 : Bool) (m4 : Int) (u5 : List Int) (m6 : Int) (u7 : List (List Int)) (w : World) (hr0 : Kd.C (Kd.int .i64) w A0 l0.length l0) (hc0 : l0.length ≤ c0) (hy0_ : laws_szPoset.f l0 1048576 = some z1) (hy1 : decide (z1 < 0) = false) (hy2_ : laws_toPoset.f k1 l0 = some l0) (hy3_ : spec_AllLinear.f k l0 = some (v2, v3)) (hy4_ : impl_AllLinear.f k l0 = some (v2, v3)) (hy5_ : laws_eqIntSS.f k1 v2 v2 = some true) (hy6_ : laws_eqPoset.f k1 l0 l0 = some true) (hy7_ : laws_markPoset.f k1 l0 1 = some (m4, u5)) (hy8 : decide (m4 < 0) = false) (hy9_ : laws_markIntSS.f k1 v2 1 = some (m6, u7)) (hy10_ : laws_heldIntSS.f k1 u7 1 = some m6) (hy11 : decide (m6 < 0) = false) :
    Calls Try.prog 13 #[.agg #[.slice A0 l0.length c0]] w fun e w' => e = .returned (.bool true) ∧ Below w.heap.size w w' := by
  have HR0 := Aside0.mk hr0
  have HC0 := Aside0.mk hc0
  clear hr0 hc0
  have hy0 := Aside0.mk hy0_
  clear hy0_
  have hy2 := Aside0.mk hy2_
  clear hy2_
  have hy3 := Aside0.mk hy3_
  clear hy3_
  have hy4 := Aside0.mk hy4_
  clear hy4_
  have hy5 := Aside0.mk hy5_
  clear hy5_
  have hy6 := Aside0.mk hy6_
  clear hy6_
  have hy7 := Aside0.mk hy7_
  clear hy7_
  have hy9 := Aside0.mk hy9_
  clear hy9_
  have hy10 := Aside0.mk hy10_
  clear hy10_
  have HT0 := Aside0.mk (Below.refl w.heap.size w)
  go_enter Try.func13, Try.ntmps13
  go_wp2_with (first | ((with_reducible refine gate_dst (N := 1) rfl ?_); refine box_event ?hg (N := 1) ?hd (cs := #[.slice A0 l0.length c0]) (t := 24) ?hr ?_; (case hd => rfl); (case hg => rfl); (case hr => first | (go_simp; done) | (go_simp; rfl)); intro g1 hg_ w1 hbox_ hb_; have HB1 := Aside0.mk hb_; have HZ1 : Aside0 (w.heap.size ≤ w1.heap.size) := ⟨hb_.size⟩; have HT1 := Aside0.mk (HT0.out.trans (Below.mono hb_ HT0.out.size)); have HG1 : Aside0 (w.heap.size ≤ g1 ∧ g1 < w1.heap.size) := ⟨Nat.le_of_eq hg_.symm, blk_lt hbox_⟩; have HBK_ := Aside0.mk hbox_; clear hb_ hbox_ hg_; have HBK1 := HBK_; clear HBK_; have hcz1 : w1.cell? ⟨g1, 0, none⟩ = some (.slice A0 l0.length c0) := (blk_cell HBK1.out 0).trans rfl; have hfz1 := blk_frozen HBK1.out 0))
  have hcall_ := laws_szPoset.calls _ _ l0 1048576 z1 _ (Kd.C_below HR0.out HT1.out) HC0.out hy0.out
  refine hcall_.mono ?_
  clear hcall_ 
  rintro e w2 ⟨rfl, hb_⟩
  have HB2 := Aside0.mk hb_
  have HZ2 : Aside0 (w1.heap.size ≤ w2.heap.size) := ⟨hb_.size⟩
  have HT2 := Aside0.mk (HT1.out.trans (Below.mono hb_ HT1.out.size))
  clear hb_
  have n_ := Aside0.mk (blk_below HBK1.out HB2.out)
  clear HBK1 hcz1
  have HBK1 := n_
  clear n_
  have hcz1 : w2.cell? ⟨g1, 0, none⟩ = some (.slice A0 l0.length c0) := (blk_cell HBK1.out 0).trans rfl
  go_wp2_with fail
  have hcall_ := laws_toPoset.calls k1 _ _ l0 l0 _ (Kd.C_below HR0.out HT2.out) HC0.out hy2.out
  refine hcall_.mono ?_
  clear hcall_ 
  rintro e w3 ⟨v1x, rfl, hx1_, hb_⟩
  have HB3 := Aside0.mk hb_
  have HZ3 : Aside0 (w2.heap.size ≤ w3.heap.size) := ⟨hb_.size⟩
  have HT3 := Aside0.mk (HT2.out.trans (Below.mono hb_ HT2.out.size))
  clear hb_
  have n_ := Aside0.mk (blk_below HBK1.out HB3.out)
  clear HBK1 hcz1
  have HBK1 := n_
  clear n_
  have hcz1 : w3.cell? ⟨g1, 0, none⟩ = some (.slice A0 l0.length c0) := (blk_cell HBK1.out 0).trans rfl
  have HX1 := Aside0.mk (Kd.R_lower (Kd.R_mono (ok' := fun k_ => w2.heap.size ≤ k_ ∧ k_ < w3.heap.size) (Kd.R_bound hx1_) (fun k_ h_ => ⟨h_.2.1, h_.2.2.1⟩)) HT2.out.size)
  clear hx1_
  go_wp2_with fail
  obtain ⟨A1_, c1_, e1_, hl1_, hC1_⟩ := Kd.R_reads HX1.out
  have hcall_ := spec_AllLinear.calls k _ _ l0 v2 v3 _ hC1_ hl1_ hy3.out
  rw [← e1_] at hcall_
  refine hcall_.mono ?_
  clear hcall_ hC1_ hl1_ e1_ c1_ A1_
  rintro e w4 ⟨v2x, rfl, hx2_, hb_⟩
  have HB4 := Aside0.mk hb_
  have HZ4 : Aside0 (w3.heap.size ≤ w4.heap.size) := ⟨hb_.size⟩
  have HT4 := Aside0.mk (HT3.out.trans (Below.mono hb_ HT3.out.size))
  clear hb_
  have n_ := Aside0.mk (Kd.R_below HX1.out HB4.out)
  clear HX1
  have HX1 := n_
  clear n_
  have n_ := Aside0.mk (blk_below HBK1.out HB4.out)
  clear HBK1 hcz1
  have HBK1 := n_
  clear n_
  have hcz1 : w4.cell? ⟨g1, 0, none⟩ = some (.slice A0 l0.length c0) := (blk_cell HBK1.out 0).trans rfl
  have HX2 := Aside0.mk (Kd.S_lower (Kd.S_mono (ok' := fun k_ => w3.heap.size ≤ k_ ∧ k_ < w4.heap.size) (Kd.S_bound hx2_) (fun k_ h_ => ⟨h_.2.1, h_.2.2.1⟩)) HT3.out.size)
  clear hx2_
  go_wp2_with fail
  have hcall_ := laws_toPoset.calls k1 _ _ l0 l0 _ (Kd.C_below HR0.out HT4.out) HC0.out hy2.out
  refine hcall_.mono ?_
  clear hcall_ 
  rintro e w5 ⟨v3x, rfl, hx3_, hb_⟩
  have HB5 := Aside0.mk hb_
  have HZ5 : Aside0 (w4.heap.size ≤ w5.heap.size) := ⟨hb_.size⟩
  have HT5 := Aside0.mk (HT4.out.trans (Below.mono hb_ HT4.out.size))
  clear hb_
  have n_ := Aside0.mk (Kd.R_below HX1.out HB5.out)
  clear HX1
  have HX1 := n_
  clear n_
  have n_ := Aside0.mk (Kd.S_below HX2.out HB5.out)
  clear HX2
  have HX2 := n_
  clear n_
  have n_ := Aside0.mk (blk_below HBK1.out HB5.out)
  clear HBK1 hcz1
  have HBK1 := n_
  clear n_
  have hcz1 : w5.cell? ⟨g1, 0, none⟩ = some (.slice A0 l0.length c0) := (blk_cell HBK1.out 0).trans rfl
  have HX3 := Aside0.mk (Kd.R_lower (Kd.R_mono (ok' := fun k_ => w4.heap.size ≤ k_ ∧ k_ < w5.heap.size) (Kd.R_bound hx3_) (fun k_ h_ => ⟨h_.2.1, h_.2.2.1⟩)) HT4.out.size)
  clear hx3_
  obtain ⟨Aq3, cq3, eq_⟩ := Kd.R_slice HX3.out
  subst eq_
  go_wp2_with (first | ((with_reducible refine gate_dst (N := 6) rfl ?_); refine box_event ?hg (N := 6) ?hd (cs := #[.slice none 0 0]) (t := 28) ?hr ?_; (case hd => rfl); (case hg => rfl); (case hr => first | (go_simp; done) | (go_simp; rfl)); intro g6 hg_ w6 hbox_ hb_; have HB6 := Aside0.mk hb_; have HZ6 : Aside0 (w5.heap.size ≤ w6.heap.size) := ⟨hb_.size⟩; have HT6 := Aside0.mk (HT5.out.trans (Below.mono hb_ HT5.out.size)); have HG6 : Aside0 (w5.heap.size ≤ g6 ∧ g6 < w6.heap.size) := ⟨Nat.le_of_eq hg_.symm, blk_lt hbox_⟩; have HBK_ := Aside0.mk hbox_; clear hb_ hbox_ hg_; have n_ := Aside0.mk (Kd.R_below HX1.out HB6.out); clear HX1; have HX1 := n_; clear n_; have n_ := Aside0.mk (Kd.S_below HX2.out HB6.out); clear HX2; have HX2 := n_; clear n_; have n_ := Aside0.mk (Kd.R_below HX3.out HB6.out); clear HX3; have HX3 := n_; clear n_; have n_ := Aside0.mk (blk_below HBK1.out HB6.out); clear HBK1 hcz1; have HBK1 := n_; clear n_; have hcz1 : w6.cell? ⟨g1, 0, none⟩ = some (.slice A0 l0.length c0) := (blk_cell HBK1.out 0).trans rfl; have HBK6 := HBK_; clear HBK_; have hcz6 : w6.cell? ⟨g6, 0, none⟩ = some (.slice none 0 0) := (blk_cell HBK6.out 0).trans rfl; have hfz6 := blk_frozen HBK6.out 0) | ((with_reducible refine gate_store (t := 28) (p := 6) rfl ?_); refine store_event (t := 28) (p := 6) (v := ?vo_) (w1 := (w6.setCell ⟨g6, 0, none⟩ (.slice Aq3 l0.length cq3))) ?hg ?ho ?hn ?hr ?_; (case ho => rfl); (case hg => rfl); (case hn => rfl); (case hr => first | (go_simp; done) | (go_simp; rfl)); intro w7 hw_; have hlt_ : w.heap.size ≤ g6 := (by have z1 := HZ1.out; have z2 := HZ2.out; have z3 := HZ3.out; have z4 := HZ4.out; have z5 := HZ5.out; have z6 := HZ6.out; have hg_ := HG6.out; have h0_ := HT0.out.size; omega); have HT7 : Aside0 (Below w.heap.size w w7) := ⟨by rw [hw_]; exact below_set HT6.out hlt_⟩; have HZ7 : Aside0 (w6.heap.size ≤ w7.heap.size) := ⟨by rw [hw_]; simp [World.setCell]⟩; have n_ : Aside0 (Kd.R (Kd.int .i64) 3 w7 w.heap.size (fun k_ => w2.heap.size ≤ k_ ∧ k_ < w3.heap.size) v1x l0) := ⟨by rw [hw_]; exact Kd.R_far HX1.out (p := ⟨g6, 0, none⟩) (fun k_ h_ => by have z1 := HZ1.out; have z2 := HZ2.out; have z3 := HZ3.out; have z4 := HZ4.out; have z5 := HZ5.out; have z6 := HZ6.out; have hg_ := HG6.out; show k_ ≠ g6; omega) _⟩; clear HX1; have HX1 := n_; clear n_; have n_ : Aside0 (Kd.S (Kd.slice 3 (Kd.int .i64)) 22 w7 w.heap.size (fun k_ => w3.heap.size ≤ k_ ∧ k_ < w4.heap.size) v2x v2) := ⟨by rw [hw_]; exact Kd.S_far HX2.out (p := ⟨g6, 0, none⟩) (fun k_ h_ => by have z1 := HZ1.out; have z2 := HZ2.out; have z3 := HZ3.out; have z4 := HZ4.out; have z5 := HZ5.out; have z6 := HZ6.out; have hg_ := HG6.out; show k_ ≠ g6; omega) _⟩; clear HX2; have HX2 := n_; clear n_; have n_ : Aside0 (Kd.R (Kd.int .i64) 3 w7 w.heap.size (fun k_ => w4.heap.size ≤ k_ ∧ k_ < w5.heap.size) (.slice Aq3 l0.length cq3) l0) := ⟨by rw [hw_]; exact Kd.R_far HX3.out (p := ⟨g6, 0, none⟩) (fun k_ h_ => by have z1 := HZ1.out; have z2 := HZ2.out; have z3 := HZ3.out; have z4 := HZ4.out; have z5 := HZ5.out; have z6 := HZ6.out; have hg_ := HG6.out; show k_ ≠ g6; omega) _⟩; clear HX3; have HX3 := n_; clear n_; have nb1_ : Aside0 (w7.heap[g1]? = some (.cells #[.slice A0 l0.length c0] 24 (0, 0))) := ⟨by rw [hw_]; exact (Below.heap_setCell _ _ _ _ (by have z1 := HZ1.out; have z2 := HZ2.out; have z3 := HZ3.out; have z4 := HZ4.out; have z5 := HZ5.out; have z6 := HZ6.out; have h1_ := HG1.out; have h2_ := HG6.out; show g1 ≠ g6; omega)).trans HBK1.out⟩; have nb6_ : Aside0 (w7.heap[g6]? = some (.cells #[.slice Aq3 l0.length cq3] 28 (0, 0))) := ⟨by rw [hw_]; exact one_setCell HBK6.out⟩; clear hcz1; clear hcz6; clear hw_; clear HBK1; have HBK1 := nb1_; clear nb1_; have hcz1 : w7.cell? ⟨g1, 0, none⟩ = some (.slice A0 l0.length c0) := (blk_cell HBK1.out 0).trans rfl; clear HBK6; have HBK6 := nb6_; clear nb6_; have hcz6 : w7.cell? ⟨g6, 0, none⟩ = some (.slice Aq3 l0.length cq3) := (blk_cell HBK6.out 0).trans rfl))
  obtain ⟨A3_, c3_, e3_, hl3_, hC3_⟩ := Kd.R_reads HX3.out
  have hcall_ := impl_AllLinear.calls k _ _ l0 v2 v3 _ hC3_ hl3_ hy4.out
  rw [← e3_] at hcall_
  refine hcall_.mono ?_
  clear hcall_ hC3_ hl3_ e3_ c3_ A3_
  rintro e w8 ⟨v4x, rfl, hx4_, hb_⟩
  have HB8 := Aside0.mk hb_
  have HZ8 : Aside0 (w7.heap.size ≤ w8.heap.size) := ⟨hb_.size⟩
  have HT8 := Aside0.mk (HT7.out.trans (Below.mono hb_ HT7.out.size))
  clear hb_
  have n_ := Aside0.mk (Kd.R_below HX1.out HB8.out)
  clear HX1
  have HX1 := n_
  clear n_
  have n_ := Aside0.mk (Kd.S_below HX2.out HB8.out)
  clear HX2
  have HX2 := n_
  clear n_
  have n_ := Aside0.mk (Kd.R_below HX3.out HB8.out)
  clear HX3
  have HX3 := n_
  clear n_
  have n_ := Aside0.mk (blk_below HBK1.out HB8.out)
  clear HBK1 hcz1
  have HBK1 := n_
  clear n_
  have hcz1 : w8.cell? ⟨g1, 0, none⟩ = some (.slice A0 l0.length c0) := (blk_cell HBK1.out 0).trans rfl
  have n_ := Aside0.mk (blk_below HBK6.out HB8.out)
  clear HBK6 hcz6
  have HBK6 := n_
  clear n_
  have hcz6 : w8.cell? ⟨g6, 0, none⟩ = some (.slice Aq3 l0.length cq3) := (blk_cell HBK6.out 0).trans rfl
  have HX4 := Aside0.mk (Kd.S_lower (Kd.S_mono (ok' := fun k_ => w7.heap.size ≤ k_ ∧ k_ < w8.heap.size) (Kd.S_bound hx4_) (fun k_ h_ => ⟨h_.2.1, h_.2.2.1⟩)) HT7.out.size)
  clear hx4_
  go_wp2_with fail
  obtain ⟨A4_, c4_, e4_, hl4_, hC4_⟩ := Kd.S_reads HX4.out
  obtain ⟨A2_, c2_, e2_, hl2_, hC2_⟩ := Kd.S_reads HX2.out
  have hcall_ := laws_eqIntSS.calls k1 _ _ v2 _ _ v2 true _ hC4_ hl4_ hC2_ hl2_ hy5.out
  rw [← e4_] at hcall_
  rw [← e2_] at hcall_
  refine hcall_.mono ?_
  clear hcall_ hC4_ hl4_ e4_ c4_ A4_ hC2_ hl2_ e2_ c2_ A2_
  rintro e w9 ⟨rfl, hb0_⟩
  have hb_ := laws_FnExactAllLinear.belowD hb0_
  clear hb0_
  have HB9 := Aside0.mk hb_
  have HZ9 : Aside0 (w8.heap.size ≤ w9.heap.size) := ⟨hb_.size⟩
  have HT9 := Aside0.mk (HT8.out.trans (Below.mono hb_ HT8.out.size))
  clear hb_
  have n_ := Aside0.mk (Kd.R_below HX1.out HB9.out)
  clear HX1
  have HX1 := n_
  clear n_
  have n_ := Aside0.mk (Kd.S_below HX2.out HB9.out)
  clear HX2
  have HX2 := n_
  clear n_
  have n_ := Aside0.mk (Kd.R_below HX3.out HB9.out)
  clear HX3
  have HX3 := n_
  clear n_
  have n_ := Aside0.mk (Kd.S_below HX4.out HB9.out)
  clear HX4
  have HX4 := n_
  clear n_
  have n_ := Aside0.mk (blk_below HBK1.out HB9.out)
  clear HBK1 hcz1
  have HBK1 := n_
  clear n_
  have hcz1 : w9.cell? ⟨g1, 0, none⟩ = some (.slice A0 l0.length c0) := (blk_cell HBK1.out 0).trans rfl
  have n_ := Aside0.mk (blk_below HBK6.out HB9.out)
  clear HBK6 hcz6
  have HBK6 := n_
  clear n_
  have hcz6 : w9.cell? ⟨g6, 0, none⟩ = some (.slice Aq3 l0.length cq3) := (blk_cell HBK6.out 0).trans rfl
  go_wp2_with fail
  have HB10 := Aside0.mk (below_drew (Below.refl w9.heap.size w9))
  have HZ10 : Aside0 (w9.heap.size ≤ w9.drew.heap.size) := ⟨Nat.le_refl _⟩
  have HT10 := Aside0.mk (HT9.out.trans (Below.mono HB10.out HT9.out.size))
  have n_ := Aside0.mk (Kd.R_below HX1.out HB10.out)
  clear HX1
  have HX1 := n_
  clear n_
  have n_ := Aside0.mk (Kd.S_below HX2.out HB10.out)
  clear HX2
  have HX2 := n_
  clear n_
  have n_ := Aside0.mk (Kd.R_below HX3.out HB10.out)
  clear HX3
  have HX3 := n_
  clear n_
  have n_ := Aside0.mk (Kd.S_below HX4.out HB10.out)
  clear HX4
  have HX4 := n_
  clear n_
  have n_ := Aside0.mk (blk_below HBK1.out HB10.out)
  clear HBK1 hcz1
  have HBK1 := n_
  clear n_
  have hcz1 : w9.drew.cell? ⟨g1, 0, none⟩ = some (.slice A0 l0.length c0) := (blk_cell HBK1.out 0).trans rfl
  have n_ := Aside0.mk (blk_below HBK6.out HB10.out)
  clear HBK6 hcz6
  have HBK6 := n_
  clear n_
  have hcz6 : w9.drew.cell? ⟨g6, 0, none⟩ = some (.slice Aq3 l0.length cq3) := (blk_cell HBK6.out 0).trans rfl
  go_region_held3 (fun w_ => w_.cell? ⟨g1, 0, none⟩ = some (.slice A0 l0.length c0) ∧ w_.cell? ⟨g6, 0, none⟩ = some (.slice Aq3 l0.length cq3)) (exact ⟨hcz1, hcz6⟩) (first | (go_at_call 17; have hcall_ := laws_toPoset.calls k1 _ _ l0 l0 _ (Kd.C_below HR0.out HT10.out) HC0.out hy2.out; refine hcall_.mono ?_; clear hcall_; rintro e w11 ⟨v5x, rfl, hx5_, hb_⟩; have HB11 := Aside0.mk hb_; have HZ11 : Aside0 (w9.drew.heap.size ≤ w11.heap.size) := ⟨hb_.size⟩; have HT11 := Aside0.mk (HT10.out.trans (Below.mono hb_ HT10.out.size)); clear hb_; have n_ := Aside0.mk (Kd.R_below HX1.out HB11.out); clear HX1; have HX1 := n_; clear n_; have n_ := Aside0.mk (Kd.S_below HX2.out HB11.out); clear HX2; have HX2 := n_; clear n_; have n_ := Aside0.mk (Kd.R_below HX3.out HB11.out); clear HX3; have HX3 := n_; clear n_; have n_ := Aside0.mk (Kd.S_below HX4.out HB11.out); clear HX4; have HX4 := n_; clear n_; have n_ := Aside0.mk (blk_below HBK1.out HB11.out); clear HBK1 hcz1; have HBK1 := n_; clear n_; have hcz1 : w11.cell? ⟨g1, 0, none⟩ = some (.slice A0 l0.length c0) := (blk_cell HBK1.out 0).trans rfl; have n_ := Aside0.mk (blk_below HBK6.out HB11.out); clear HBK6 hcz6; have HBK6 := n_; clear n_; have hcz6 : w11.cell? ⟨g6, 0, none⟩ = some (.slice Aq3 l0.length cq3) := (blk_cell HBK6.out 0).trans rfl; have HX5 := Aside0.mk (Kd.R_lower (Kd.R_mono (ok' := fun k_ => w9.drew.heap.size ≤ k_ ∧ k_ < w11.heap.size) (Kd.R_bound hx5_) (fun k_ h_ => ⟨h_.2.1, h_.2.2.1⟩)) HT10.out.size); clear hx5_) | (go_at_call 21; obtain ⟨A3_, c3_, e3_, hl3_, hC3_⟩ := Kd.R_reads HX3.out; obtain ⟨A5_, c5_, e5_, hl5_, hC5_⟩ := Kd.R_reads HX5.out; have hcall_ := laws_eqPoset.calls k1 _ _ l0 _ _ l0 true _ hC3_ hl3_ hC5_ hl5_ hy6.out; rw [← e3_] at hcall_; rw [← e5_] at hcall_; refine hcall_.mono ?_; clear hcall_ hC3_ hl3_ e3_ c3_ A3_ hC5_ hl5_ e5_ c5_ A5_; rintro e w12 ⟨rfl, hb_⟩; have HB12 := Aside0.mk hb_; have HZ12 : Aside0 (w11.heap.size ≤ w12.heap.size) := ⟨hb_.size⟩; have HT12 := Aside0.mk (HT11.out.trans (Below.mono hb_ HT11.out.size)); clear hb_; have n_ := Aside0.mk (Kd.R_below HX1.out HB12.out); clear HX1; have HX1 := n_; clear n_; have n_ := Aside0.mk (Kd.S_below HX2.out HB12.out); clear HX2; have HX2 := n_; clear n_; have n_ := Aside0.mk (Kd.R_below HX3.out HB12.out); clear HX3; have HX3 := n_; clear n_; have n_ := Aside0.mk (Kd.S_below HX4.out HB12.out); clear HX4; have HX4 := n_; clear n_; have n_ := Aside0.mk (Kd.R_below HX5.out HB12.out); clear HX5; have HX5 := n_; clear n_; have n_ := Aside0.mk (blk_below HBK1.out HB12.out); clear HBK1 hcz1; have HBK1 := n_; clear n_; have hcz1 : w12.cell? ⟨g1, 0, none⟩ = some (.slice A0 l0.length c0) := (blk_cell HBK1.out 0).trans rfl; have n_ := Aside0.mk (blk_below HBK6.out HB12.out); clear HBK6 hcz6; have HBK6 := n_; clear n_; have hcz6 : w12.cell? ⟨g6, 0, none⟩ = some (.slice Aq3 l0.length cq3) := (blk_cell HBK6.out 0).trans rfl))
  go_wp2_with fail
  refine (laws_markPoset.calls k1 (fun k_ => some k_ = ((.slice Aq3 l0.length cq3) : Value).ownBlock) (.slice Aq3 l0.length cq3) l0 1 m4 u5 w _ HT12.out (Kd.R_tight rfl HX3.out) hy7.out).mono ?_
  rintro e w13 ⟨rfl, hy_, hb_, hk_⟩
  have HT13 := Aside0.mk hb_
  have HK13 := Aside0.mk hk_
  have HZ13 : Aside0 (w12.heap.size ≤ w13.heap.size) := ⟨hk_.1⟩
  have HO := HX3
  have HY := Aside0.mk (Kd.R_reok rfl hy_ (fun k_ e_ => HO.out.1 k_ e_))
  clear hy_ hb_ hk_
  have n_ := Aside0.mk (Kd.R_kept HX1.out HK13.out (fun k_ h_ h2_ => by have z1 := HZ1.out; have z2 := HZ2.out; have z3 := HZ3.out; have z4 := HZ4.out; have z5 := HZ5.out; have z6 := HZ6.out; have z7 := HZ7.out; have z8 := HZ8.out; have z9 := HZ9.out; have z10 := HZ10.out; have z11 := HZ11.out; have z12 := HZ12.out; have z13 := HZ13.out; have h3_ := HO.out.1 k_ h2_.symm; omega))
  clear HX1
  have HX1 := n_
  clear n_
  have n_ := Aside0.mk (Kd.S_kept HX2.out HK13.out (fun k_ h_ h2_ => by have z1 := HZ1.out; have z2 := HZ2.out; have z3 := HZ3.out; have z4 := HZ4.out; have z5 := HZ5.out; have z6 := HZ6.out; have z7 := HZ7.out; have z8 := HZ8.out; have z9 := HZ9.out; have z10 := HZ10.out; have z11 := HZ11.out; have z12 := HZ12.out; have z13 := HZ13.out; have h3_ := HO.out.1 k_ h2_.symm; omega))
  clear HX2
  have HX2 := n_
  clear n_
  have n_ := Aside0.mk (Kd.S_kept HX4.out HK13.out (fun k_ h_ h2_ => by have z1 := HZ1.out; have z2 := HZ2.out; have z3 := HZ3.out; have z4 := HZ4.out; have z5 := HZ5.out; have z6 := HZ6.out; have z7 := HZ7.out; have z8 := HZ8.out; have z9 := HZ9.out; have z10 := HZ10.out; have z11 := HZ11.out; have z12 := HZ12.out; have z13 := HZ13.out; have h3_ := HO.out.1 k_ h2_.symm; omega))
  clear HX4
  have HX4 := n_
  clear n_
  have n_ := Aside0.mk (Kd.R_kept HX5.out HK13.out (fun k_ h_ h2_ => by have z1 := HZ1.out; have z2 := HZ2.out; have z3 := HZ3.out; have z4 := HZ4.out; have z5 := HZ5.out; have z6 := HZ6.out; have z7 := HZ7.out; have z8 := HZ8.out; have z9 := HZ9.out; have z10 := HZ10.out; have z11 := HZ11.out; have z12 := HZ12.out; have z13 := HZ13.out; have h3_ := HO.out.1 k_ h2_.symm; omega))
  clear HX5
  have HX5 := n_
  clear n_
  have n_ := Aside0.mk ((HK13.out.2 g1 (blk_lt HBK1.out) (fun h2_ => by have z1 := HZ1.out; have z2 := HZ2.out; have z3 := HZ3.out; have z4 := HZ4.out; have z5 := HZ5.out; have z6 := HZ6.out; have z7 := HZ7.out; have z8 := HZ8.out; have z9 := HZ9.out; have z10 := HZ10.out; have z11 := HZ11.out; have z12 := HZ12.out; have z13 := HZ13.out; have hg_ := HG1.out; have h3_ := HO.out.1 g1 h2_.symm; omega)).trans HBK1.out)
  clear HBK1 hcz1
  have HBK1 := n_
  clear n_
  have hcz1 : w13.cell? ⟨g1, 0, none⟩ = some (.slice A0 l0.length c0) := (blk_cell HBK1.out 0).trans rfl
  have n_ := Aside0.mk ((HK13.out.2 g6 (blk_lt HBK6.out) (fun h2_ => by have z1 := HZ1.out; have z2 := HZ2.out; have z3 := HZ3.out; have z4 := HZ4.out; have z5 := HZ5.out; have z6 := HZ6.out; have z7 := HZ7.out; have z8 := HZ8.out; have z9 := HZ9.out; have z10 := HZ10.out; have z11 := HZ11.out; have z12 := HZ12.out; have z13 := HZ13.out; have hg_ := HG6.out; have h3_ := HO.out.1 g6 h2_.symm; omega)).trans HBK6.out)
  clear HBK6 hcz6
  have HBK6 := n_
  clear n_
  have hcz6 : w13.cell? ⟨g6, 0, none⟩ = some (.slice Aq3 l0.length cq3) := (blk_cell HBK6.out 0).trans rfl
  clear HX3 HO
  have HX3 := HY
  clear HY
  go_wp2_with fail
  obtain ⟨A4_, c4_, e4_, hl4_, hC4_⟩ := Kd.S_reads HX4.out
  obtain ⟨A2_, c2_, e2_, hl2_, hC2_⟩ := Kd.S_reads HX2.out
  have hcall_ := laws_eqIntSS.calls k1 _ _ v2 _ _ v2 true _ hC4_ hl4_ hC2_ hl2_ hy5.out
  rw [← e4_] at hcall_
  rw [← e2_] at hcall_
  refine hcall_.mono ?_
  clear hcall_ hC4_ hl4_ e4_ c4_ A4_ hC2_ hl2_ e2_ c2_ A2_
  rintro e w14 ⟨rfl, hb0_⟩
  have hb_ := laws_FnExactAllLinear.belowD hb0_
  clear hb0_
  have HB14 := Aside0.mk hb_
  have HZ14 : Aside0 (w13.heap.size ≤ w14.heap.size) := ⟨hb_.size⟩
  have HT14 := Aside0.mk (HT13.out.trans (Below.mono hb_ HT13.out.size))
  clear hb_
  have n_ := Aside0.mk (Kd.R_below HX1.out HB14.out)
  clear HX1
  have HX1 := n_
  clear n_
  have n_ := Aside0.mk (Kd.S_below HX2.out HB14.out)
  clear HX2
  have HX2 := n_
  clear n_
  have n_ := Aside0.mk (Kd.R_below HX3.out HB14.out)
  clear HX3
  have HX3 := n_
  clear n_
  have n_ := Aside0.mk (Kd.S_below HX4.out HB14.out)
  clear HX4
  have HX4 := n_
  clear n_
  have n_ := Aside0.mk (Kd.R_below HX5.out HB14.out)
  clear HX5
  have HX5 := n_
  clear n_
  have n_ := Aside0.mk (blk_below HBK1.out HB14.out)
  clear HBK1 hcz1
  have HBK1 := n_
  clear n_
  have hcz1 : w14.cell? ⟨g1, 0, none⟩ = some (.slice A0 l0.length c0) := (blk_cell HBK1.out 0).trans rfl
  have n_ := Aside0.mk (blk_below HBK6.out HB14.out)
  clear HBK6 hcz6
  have HBK6 := n_
  clear n_
  have hcz6 : w14.cell? ⟨g6, 0, none⟩ = some (.slice Aq3 l0.length cq3) := (blk_cell HBK6.out 0).trans rfl
  go_wp2_with fail
  refine (laws_markIntSS.calls k1 (fun k_ => w7.heap.size ≤ k_ ∧ k_ < w8.heap.size) v4x v2 1 m6 u7 w _ HT14.out HX4.out hy9.out).mono ?_
  rintro e w15 ⟨rfl, hy_, hb_, hk_⟩
  have HT15 := Aside0.mk hb_
  have HK15 := Aside0.mk hk_
  have HZ15 : Aside0 (w14.heap.size ≤ w15.heap.size) := ⟨hk_.1⟩
  have HO := HX4
  have HY := Aside0.mk hy_
  clear hy_ hb_ hk_
  have n_ := Aside0.mk (Kd.R_kept HX1.out HK15.out (fun k_ h_ h2_ => by have z1 := HZ1.out; have z2 := HZ2.out; have z3 := HZ3.out; have z4 := HZ4.out; have z5 := HZ5.out; have z6 := HZ6.out; have z7 := HZ7.out; have z8 := HZ8.out; have z9 := HZ9.out; have z10 := HZ10.out; have z11 := HZ11.out; have z12 := HZ12.out; have z13 := HZ13.out; have z14 := HZ14.out; have z15 := HZ15.out; omega))
  clear HX1
  have HX1 := n_
  clear n_
  have n_ := Aside0.mk (Kd.S_kept HX2.out HK15.out (fun k_ h_ h2_ => by have z1 := HZ1.out; have z2 := HZ2.out; have z3 := HZ3.out; have z4 := HZ4.out; have z5 := HZ5.out; have z6 := HZ6.out; have z7 := HZ7.out; have z8 := HZ8.out; have z9 := HZ9.out; have z10 := HZ10.out; have z11 := HZ11.out; have z12 := HZ12.out; have z13 := HZ13.out; have z14 := HZ14.out; have z15 := HZ15.out; omega))
  clear HX2
  have HX2 := n_
  clear n_
  have n_ := Aside0.mk (Kd.R_kept HX3.out HK15.out (fun k_ h_ h2_ => by have z1 := HZ1.out; have z2 := HZ2.out; have z3 := HZ3.out; have z4 := HZ4.out; have z5 := HZ5.out; have z6 := HZ6.out; have z7 := HZ7.out; have z8 := HZ8.out; have z9 := HZ9.out; have z10 := HZ10.out; have z11 := HZ11.out; have z12 := HZ12.out; have z13 := HZ13.out; have z14 := HZ14.out; have z15 := HZ15.out; omega))
  clear HX3
  have HX3 := n_
  clear n_
  have n_ := Aside0.mk (Kd.R_kept HX5.out HK15.out (fun k_ h_ h2_ => by have z1 := HZ1.out; have z2 := HZ2.out; have z3 := HZ3.out; have z4 := HZ4.out; have z5 := HZ5.out; have z6 := HZ6.out; have z7 := HZ7.out; have z8 := HZ8.out; have z9 := HZ9.out; have z10 := HZ10.out; have z11 := HZ11.out; have z12 := HZ12.out; have z13 := HZ13.out; have z14 := HZ14.out; have z15 := HZ15.out; omega))
  clear HX5
  have HX5 := n_
  clear n_
  have n_ := Aside0.mk ((HK15.out.2 g1 (blk_lt HBK1.out) (fun h2_ => by have z1 := HZ1.out; have z2 := HZ2.out; have z3 := HZ3.out; have z4 := HZ4.out; have z5 := HZ5.out; have z6 := HZ6.out; have z7 := HZ7.out; have z8 := HZ8.out; have z9 := HZ9.out; have z10 := HZ10.out; have z11 := HZ11.out; have z12 := HZ12.out; have z13 := HZ13.out; have z14 := HZ14.out; have z15 := HZ15.out; have hg_ := HG1.out; omega)).trans HBK1.out)
  clear HBK1 hcz1
  have HBK1 := n_
  clear n_
  have hcz1 : w15.cell? ⟨g1, 0, none⟩ = some (.slice A0 l0.length c0) := (blk_cell HBK1.out 0).trans rfl
  have n_ := Aside0.mk ((HK15.out.2 g6 (blk_lt HBK6.out) (fun h2_ => by have z1 := HZ1.out; have z2 := HZ2.out; have z3 := HZ3.out; have z4 := HZ4.out; have z5 := HZ5.out; have z6 := HZ6.out; have z7 := HZ7.out; have z8 := HZ8.out; have z9 := HZ9.out; have z10 := HZ10.out; have z11 := HZ11.out; have z12 := HZ12.out; have z13 := HZ13.out; have z14 := HZ14.out; have z15 := HZ15.out; have hg_ := HG6.out; omega)).trans HBK6.out)
  clear HBK6 hcz6
  have HBK6 := n_
  clear n_
  have hcz6 : w15.cell? ⟨g6, 0, none⟩ = some (.slice Aq3 l0.length cq3) := (blk_cell HBK6.out 0).trans rfl
  clear HX4 HO
  have HX4 := HY
  clear HY
  go_wp2_with fail
  obtain ⟨A4_, c4_, e4_, hl4_, hC4_⟩ := Kd.S_reads HX4.out
  have hcall_ := laws_heldIntSS.calls k1 _ _ u7 1 m6 _ hC4_ hl4_ hy10.out
  rw [← e4_] at hcall_
  refine hcall_.mono ?_
  clear hcall_ hC4_ hl4_ e4_ c4_ A4_
  rintro e w16 ⟨rfl, hb0_⟩
  have hb_ := laws_FnExactAllLinear.belowD hb0_
  clear hb0_
  have HB16 := Aside0.mk hb_
  have HZ16 : Aside0 (w15.heap.size ≤ w16.heap.size) := ⟨hb_.size⟩
  have HT16 := Aside0.mk (HT15.out.trans (Below.mono hb_ HT15.out.size))
  clear hb_
  have n_ := Aside0.mk (Kd.R_below HX1.out HB16.out)
  clear HX1
  have HX1 := n_
  clear n_
  have n_ := Aside0.mk (Kd.S_below HX2.out HB16.out)
  clear HX2
  have HX2 := n_
  clear n_
  have n_ := Aside0.mk (Kd.R_below HX3.out HB16.out)
  clear HX3
  have HX3 := n_
  clear n_
  have n_ := Aside0.mk (Kd.S_below HX4.out HB16.out)
  clear HX4
  have HX4 := n_
  clear n_
  have n_ := Aside0.mk (Kd.R_below HX5.out HB16.out)
  clear HX5
  have HX5 := n_
  clear n_
  have n_ := Aside0.mk (blk_below HBK1.out HB16.out)
  clear HBK1 hcz1
  have HBK1 := n_
  clear n_
  have hcz1 : w16.cell? ⟨g1, 0, none⟩ = some (.slice A0 l0.length c0) := (blk_cell HBK1.out 0).trans rfl
  have n_ := Aside0.mk (blk_below HBK6.out HB16.out)
  clear HBK6 hcz6
  have HBK6 := n_
  clear n_
  have hcz6 : w16.cell? ⟨g6, 0, none⟩ = some (.slice Aq3 l0.length cq3) := (blk_cell HBK6.out 0).trans rfl
  go_wp2_with fail
  have hcall_ := laws_toPoset.calls k1 _ _ l0 l0 _ (Kd.C_below HR0.out HT16.out) HC0.out hy2.out
  refine hcall_.mono ?_
  clear hcall_ 
  rintro e w17 ⟨v6x, rfl, hx6_, hb_⟩
  have HB17 := Aside0.mk hb_
  have HZ17 : Aside0 (w16.heap.size ≤ w17.heap.size) := ⟨hb_.size⟩
  have HT17 := Aside0.mk (HT16.out.trans (Below.mono hb_ HT16.out.size))
  clear hb_
  have n_ := Aside0.mk (Kd.R_below HX1.out HB17.out)
  clear HX1
  have HX1 := n_
  clear n_
  have n_ := Aside0.mk (Kd.S_below HX2.out HB17.out)
  clear HX2
  have HX2 := n_
  clear n_
  have n_ := Aside0.mk (Kd.R_below HX3.out HB17.out)
  clear HX3
  have HX3 := n_
  clear n_
  have n_ := Aside0.mk (Kd.S_below HX4.out HB17.out)
  clear HX4
  have HX4 := n_
  clear n_
  have n_ := Aside0.mk (Kd.R_below HX5.out HB17.out)
  clear HX5
  have HX5 := n_
  clear n_
  have n_ := Aside0.mk (blk_below HBK1.out HB17.out)
  clear HBK1 hcz1
  have HBK1 := n_
  clear n_
  have hcz1 : w17.cell? ⟨g1, 0, none⟩ = some (.slice A0 l0.length c0) := (blk_cell HBK1.out 0).trans rfl
  have n_ := Aside0.mk (blk_below HBK6.out HB17.out)
  clear HBK6 hcz6
  have HBK6 := n_
  clear n_
  have hcz6 : w17.cell? ⟨g6, 0, none⟩ = some (.slice Aq3 l0.length cq3) := (blk_cell HBK6.out 0).trans rfl
  have HX6 := Aside0.mk (Kd.R_lower (Kd.R_mono (ok' := fun k_ => w16.heap.size ≤ k_ ∧ k_ < w17.heap.size) (Kd.R_bound hx6_) (fun k_ h_ => ⟨h_.2.1, h_.2.2.1⟩)) HT16.out.size)
  clear hx6_
  go_wp2_with fail
  obtain ⟨A6_, c6_, e6_, hl6_, hC6_⟩ := Kd.R_reads HX6.out
  have hcall_ := impl_AllLinear.calls k _ _ l0 v2 v3 _ hC6_ hl6_ hy4.out
  rw [← e6_] at hcall_
  refine hcall_.mono ?_
  clear hcall_ hC6_ hl6_ e6_ c6_ A6_
  rintro e w18 ⟨v7x, rfl, hx7_, hb_⟩
  have HB18 := Aside0.mk hb_
  have HZ18 : Aside0 (w17.heap.size ≤ w18.heap.size) := ⟨hb_.size⟩
  have HT18 := Aside0.mk (HT17.out.trans (Below.mono hb_ HT17.out.size))
  clear hb_
  have n_ := Aside0.mk (Kd.R_below HX1.out HB18.out)
  clear HX1
  have HX1 := n_
  clear n_
  have n_ := Aside0.mk (Kd.S_below HX2.out HB18.out)
  clear HX2
  have HX2 := n_
  clear n_
  have n_ := Aside0.mk (Kd.R_below HX3.out HB18.out)
  clear HX3
  have HX3 := n_
  clear n_
  have n_ := Aside0.mk (Kd.S_below HX4.out HB18.out)
  clear HX4
  have HX4 := n_
  clear n_
  have n_ := Aside0.mk (Kd.R_below HX5.out HB18.out)
  clear HX5
  have HX5 := n_
  clear n_
  have n_ := Aside0.mk (Kd.R_below HX6.out HB18.out)
  clear HX6
  have HX6 := n_
  clear n_
  have n_ := Aside0.mk (blk_below HBK1.out HB18.out)
  clear HBK1 hcz1
  have HBK1 := n_
  clear n_
  have hcz1 : w18.cell? ⟨g1, 0, none⟩ = some (.slice A0 l0.length c0) := (blk_cell HBK1.out 0).trans rfl
  have n_ := Aside0.mk (blk_below HBK6.out HB18.out)
  clear HBK6 hcz6
  have HBK6 := n_
  clear n_
  have hcz6 : w18.cell? ⟨g6, 0, none⟩ = some (.slice Aq3 l0.length cq3) := (blk_cell HBK6.out 0).trans rfl
  have HX7 := Aside0.mk (Kd.S_lower (Kd.S_mono (ok' := fun k_ => w17.heap.size ≤ k_ ∧ k_ < w18.heap.size) (Kd.S_bound hx7_) (fun k_ h_ => ⟨h_.2.1, h_.2.2.1⟩)) HT17.out.size)
  clear hx7_
  go_wp2_with fail
  obtain ⟨A7_, c7_, e7_, hl7_, hC7_⟩ := Kd.S_reads HX7.out
  obtain ⟨A2_, c2_, e2_, hl2_, hC2_⟩ := Kd.S_reads HX2.out
  have hcall_ := laws_eqIntSS.calls k1 _ _ v2 _ _ v2 true _ hC7_ hl7_ hC2_ hl2_ hy5.out
  rw [← e7_] at hcall_
  rw [← e2_] at hcall_
  refine hcall_.mono ?_
  clear hcall_ hC7_ hl7_ e7_ c7_ A7_ hC2_ hl2_ e2_ c2_ A2_
  rintro e w19 ⟨rfl, hb0_⟩
  have hb_ := laws_FnExactAllLinear.belowD hb0_
  clear hb0_
  have HB19 := Aside0.mk hb_
  have HZ19 : Aside0 (w18.heap.size ≤ w19.heap.size) := ⟨hb_.size⟩
  have HT19 := Aside0.mk (HT18.out.trans (Below.mono hb_ HT18.out.size))
  clear hb_
  have n_ := Aside0.mk (Kd.R_below HX1.out HB19.out)
  clear HX1
  have HX1 := n_
  clear n_
  have n_ := Aside0.mk (Kd.S_below HX2.out HB19.out)
  clear HX2
  have HX2 := n_
  clear n_
  have n_ := Aside0.mk (Kd.R_below HX3.out HB19.out)
  clear HX3
  have HX3 := n_
  clear n_
  have n_ := Aside0.mk (Kd.S_below HX4.out HB19.out)
  clear HX4
  have HX4 := n_
  clear n_
  have n_ := Aside0.mk (Kd.R_below HX5.out HB19.out)
  clear HX5
  have HX5 := n_
  clear n_
  have n_ := Aside0.mk (Kd.R_below HX6.out HB19.out)
  clear HX6
  have HX6 := n_
  clear n_
  have n_ := Aside0.mk (Kd.S_below HX7.out HB19.out)
  clear HX7
  have HX7 := n_
  clear n_
  have n_ := Aside0.mk (blk_below HBK1.out HB19.out)
  clear HBK1 hcz1
  have HBK1 := n_
  clear n_
  have hcz1 : w19.cell? ⟨g1, 0, none⟩ = some (.slice A0 l0.length c0) := (blk_cell HBK1.out 0).trans rfl
  have n_ := Aside0.mk (blk_below HBK6.out HB19.out)
  clear HBK6 hcz6
  have HBK6 := n_
  clear n_
  have hcz6 : w19.cell? ⟨g6, 0, none⟩ = some (.slice Aq3 l0.length cq3) := (blk_cell HBK6.out 0).trans rfl
  go_wp2_with fail
  obtain ⟨A4_, c4_, e4_, hl4_, hC4_⟩ := Kd.S_reads HX4.out
  have hcall_ := laws_heldIntSS.calls k1 _ _ u7 1 m6 _ hC4_ hl4_ hy10.out
  rw [← e4_] at hcall_
  refine hcall_.mono ?_
  clear hcall_ hC4_ hl4_ e4_ c4_ A4_
  rintro e w20 ⟨rfl, hb0_⟩
  have hb_ := laws_FnExactAllLinear.belowD hb0_
  clear hb0_
  have HB20 := Aside0.mk hb_
  have HZ20 : Aside0 (w19.heap.size ≤ w20.heap.size) := ⟨hb_.size⟩
  have HT20 := Aside0.mk (HT19.out.trans (Below.mono hb_ HT19.out.size))
  clear hb_
  have n_ := Aside0.mk (Kd.R_below HX1.out HB20.out)
  clear HX1
  have HX1 := n_
  clear n_
  have n_ := Aside0.mk (Kd.S_below HX2.out HB20.out)
  clear HX2
  have HX2 := n_
  clear n_
  have n_ := Aside0.mk (Kd.R_below HX3.out HB20.out)
  clear HX3
  have HX3 := n_
  clear n_
  have n_ := Aside0.mk (Kd.S_below HX4.out HB20.out)
  clear HX4
  have HX4 := n_
  clear n_
  have n_ := Aside0.mk (Kd.R_below HX5.out HB20.out)
  clear HX5
  have HX5 := n_
  clear n_
  have n_ := Aside0.mk (Kd.R_below HX6.out HB20.out)
  clear HX6
  have HX6 := n_
  clear n_
  have n_ := Aside0.mk (Kd.S_below HX7.out HB20.out)
  clear HX7
  have HX7 := n_
  clear n_
  have n_ := Aside0.mk (blk_below HBK1.out HB20.out)
  clear HBK1 hcz1
  have HBK1 := n_
  clear n_
  have hcz1 : w20.cell? ⟨g1, 0, none⟩ = some (.slice A0 l0.length c0) := (blk_cell HBK1.out 0).trans rfl
  have n_ := Aside0.mk (blk_below HBK6.out HB20.out)
  clear HBK6 hcz6
  have HBK6 := n_
  clear n_
  have hcz6 : w20.cell? ⟨g6, 0, none⟩ = some (.slice Aq3 l0.length cq3) := (blk_cell HBK6.out 0).trans rfl
  go_wp2
  go_ret
  exact ⟨by first | rfl | (simp; done) | (simp [*]; done), by repeat (first | (with_reducible first | exact HT20.out | apply below_alloc | apply pw_below_drewN | apply below_drew1) | exact HT20.out)⟩
open Classical in
noncomputable def laws_FnExactAllLinear.f (k : Nat) (l0 : List Int) : Option Bool := if ∃ k1 : Nat, (∃ (z1 : Int), (laws_szPoset.f l0 1048576 = some z1) ∧ (decide (z1 < 0) = true)) ∨ (∃ (z1 : Int) (v2 : List (List Int)) (v3 : Bool) (m4 : Int) (u5 : List Int) (m6 : Int) (u7 : List (List Int)), (laws_szPoset.f l0 1048576 = some z1) ∧ (decide (z1 < 0) = false) ∧ (laws_toPoset.f k1 l0 = some l0) ∧ (spec_AllLinear.f k l0 = some (v2, v3)) ∧ (impl_AllLinear.f k l0 = some (v2, v3)) ∧ (laws_eqIntSS.f k1 v2 v2 = some true) ∧ (laws_eqPoset.f k1 l0 l0 = some true) ∧ (laws_markPoset.f k1 l0 1 = some (m4, u5)) ∧ (decide (m4 < 0) = false) ∧ (laws_markIntSS.f k1 v2 1 = some (m6, u7)) ∧ (laws_heldIntSS.f k1 u7 1 = some m6) ∧ (decide (m6 < 0) = false)) then some true else none
theorem laws_FnExactAllLinear.calls (k : Nat) (A0 : Option Addr) (c0 : Nat) (l0 : List Int) (r : Bool) (w : World) (hr0 : Kd.C (Kd.int .i64) w A0 l0.length l0) (hc0 : l0.length ≤ c0) (h : laws_FnExactAllLinear.f k l0 = some r) :
    Calls Try.prog 13 #[.agg #[.slice A0 l0.length c0]] w fun e w' => e = .returned (.bool r) ∧ Below w.heap.size w w' := by
  unfold laws_FnExactAllLinear.f at h
  split at h
  · rename_i hh
    obtain rfl := Option.some.inj h
    obtain ⟨k1, hh⟩ := hh
    rcases hh with ⟨z1, hy0, hx⟩ | ⟨z1, v2, v3, m4, u5, m6, u7, hy0, hy1, hy2, hy3, hy4, hy5, hy6, hy7, hy8, hy9, hy10, hy11⟩
    · exact laws_FnExactAllLinear.calls0 k k1 _ _ l0 z1 w hr0 hc0 hy0 hx
    · exact laws_FnExactAllLinear.calls1 k k1 _ _ l0 z1 v2 v3 m4 u5 m6 u7 w hr0 hc0 hy0 hy1 hy2 hy3 hy4 hy5 hy6 hy7 hy8 hy9 hy10 hy11
  · cases h
end Go.Proofs.Ytjahclncpgllmaa.F
end
