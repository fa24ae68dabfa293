/- Part 5 of the texts below the row of FnExactSelfEvacuated: printed functions with their contracts, and plain lemmas. No condition. -/
import Derived.Test.YtjahclncpgllmaaZFnExactSelfEvacuated4
import Derived.Laws.CopyOwn
import Derived.Lib.Hide
import Derived.Shelf.SlicesE.DeleteFunc
import Derived.Deep.RegionHeld3
import Derived.Deep.RegionWith
import Derived.OneCell
import Derived.Laws.EntriesVeiled
section
namespace Go.Proofs.Ytjahclncpgllmaa.F
open Go.RowKit Go.Proofs.YtjahclncpgllmaaW.PrintWords Go.Proofs.YtjahclncpgllmaaW.PrintLast Go.Proofs.YtjahclncpgllmaaW.PrintMore
set_option linter.unusedVariables false
set_option linter.unusedSimpArgs false
def impl_lineOf.f (l0 : List Int) : Option (Int × Int × Int × Int × Int × Int × Int × Int × Int × Int) := if l0.length ≤ 10 then some (l0.getD 0 0, l0.getD 1 0, l0.getD 2 0, l0.getD 3 0, l0.getD 4 0, l0.getD 5 0, l0.getD 6 0, l0.getD 7 0, l0.getD 8 0, l0.getD 9 0) else none
theorem impl_lineOf.sz : (Try.prog.info? 3).map (·.size) = some 1 := by kernel_rfl
theorem impl_lineOf.src {w : World} {A : Option Addr} {l : List Int} (h : Kd.C (Kd.int .i64) w A l.length l) (hp : 0 < l.length) : ∃ ad, A = some ad ∧ ∀ j v, (l.map (Value.int .i64))[j]? = some v → w.cell? (ad.add j) = some v := by
  obtain ⟨ad, e, hc⟩ := (Kd.reads_of_C (d := (0 : Int)) h).2.2 hp
  refine ⟨ad, e, fun j v hv => ?_⟩
  rw [List.getElem?_map] at hv
  rcases Nat.lt_or_ge j l.length with hj | hj
  · rw [hc j hj, List.getD_eq_getElem?_getD, List.getElem?_eq_getElem hj]
    rw [List.getElem?_eq_getElem hj] at hv
    exact hv
  · rw [List.getElem?_eq_none hj] at hv; cases hv
theorem impl_lineOf.one (l : List Int) : ∀ v ∈ l.map (Value.int .i64), v.oneCell' = true := by
  intro v hv
  obtain ⟨x, _, rfl⟩ := List.mem_map.1 hv
  rfl
def impl_lineOf.Is (l : List Int) (r1 r2 r3 r4 r5 r6 r7 r8 r9 r10 : Int) : Prop := (l.getD 0 0, l.getD 1 0, l.getD 2 0, l.getD 3 0, l.getD 4 0, l.getD 5 0, l.getD 6 0, l.getD 7 0, l.getD 8 0, l.getD 9 0) = (r1, r2, r3, r4, r5, r6, r7, r8, r9, r10)
theorem impl_lineOf.put (l : List Int) (h : l.length ≤ 10) : (splice [Value.int .i64 0, Value.int .i64 0, Value.int .i64 0, Value.int .i64 0, Value.int .i64 0, Value.int .i64 0, Value.int .i64 0, Value.int .i64 0, Value.int .i64 0, Value.int .i64 0] 0 (l.map (Value.int .i64))).toArray = #[.int .i64 (l.getD 0 0), .int .i64 (l.getD 1 0), .int .i64 (l.getD 2 0), .int .i64 (l.getD 3 0), .int .i64 (l.getD 4 0), .int .i64 (l.getD 5 0), .int .i64 (l.getD 6 0), .int .i64 (l.getD 7 0), .int .i64 (l.getD 8 0), .int .i64 (l.getD 9 0)] := by
  match l, h with
  | [], _ => rfl
  | x0 :: [], _ => rfl
  | x0 :: x1 :: [], _ => rfl
  | x0 :: x1 :: x2 :: [], _ => rfl
  | x0 :: x1 :: x2 :: x3 :: [], _ => rfl
  | x0 :: x1 :: x2 :: x3 :: x4 :: [], _ => rfl
  | x0 :: x1 :: x2 :: x3 :: x4 :: x5 :: [], _ => rfl
  | x0 :: x1 :: x2 :: x3 :: x4 :: x5 :: x6 :: [], _ => rfl
  | x0 :: x1 :: x2 :: x3 :: x4 :: x5 :: x6 :: x7 :: [], _ => rfl
  | x0 :: x1 :: x2 :: x3 :: x4 :: x5 :: x6 :: x7 :: x8 :: [], _ => rfl
  | x0 :: x1 :: x2 :: x3 :: x4 :: x5 :: x6 :: x7 :: x8 :: x9 :: [], _ => rfl
  | x0 :: x1 :: x2 :: x3 :: x4 :: x5 :: x6 :: x7 :: x8 :: x9 :: _ :: _, h => exact absurd h (by simp)
theorem impl_lineOf.sp {w : World} {g : Nat} {t : TypeId} {l : List Int} {r1 r2 r3 r4 r5 r6 r7 r8 r9 r10 : Int} (h : w.heap[g]? = some (.cells (splice [Value.int .i64 0, Value.int .i64 0, Value.int .i64 0, Value.int .i64 0, Value.int .i64 0, Value.int .i64 0, Value.int .i64 0, Value.int .i64 0, Value.int .i64 0, Value.int .i64 0] 0 (l.map (Value.int .i64))).toArray t (0, 0))) (hl : l.length ≤ 10) (hv : impl_lineOf.Is l r1 r2 r3 r4 r5 r6 r7 r8 r9 r10) :
    w.heap[g]? = some (.cells #[.int .i64 r1, .int .i64 r2, .int .i64 r3, .int .i64 r4, .int .i64 r5, .int .i64 r6, .int .i64 r7, .int .i64 r8, .int .i64 r9, .int .i64 r10] t (0, 0)) := by
  rw [impl_lineOf.put l hl] at h
  unfold impl_lineOf.Is at hv
  simp only [Prod.mk.injEq] at hv
  obtain ⟨rfl, rfl, rfl, rfl, rfl, rfl, rfl, rfl, rfl, rfl⟩ := hv
  exact h
theorem below_then_ {n m : Nat} {w W w2 : World} (h : Below n w W) (hm : n ≤ m) (k : Below m W w2) : Below n w w2 := h.trans (Below.mono k hm)
set_option maxHeartbeats 8000000 in
set_option maxRecDepth 100000 in
theorem impl_lineOf.calls (A0 : Option Addr) (c0 : Nat) (l0 : List Int) (r1 r2 r3 r4 r5 r6 r7 r8 r9 r10 : Int) (w : World) (hr0 : Kd.C (Kd.int .i64) w A0 l0.length l0) (hc0 : l0.length ≤ c0) (h : impl_lineOf.f l0 = some (r1, r2, r3, r4, r5, r6, r7, r8, r9, r10)) :
    Calls Try.prog 60 #[.slice A0 l0.length c0] w fun e w' => e = .returned (.agg #[.int .i64 r1, .int .i64 r2, .int .i64 r3, .int .i64 r4, .int .i64 r5, .int .i64 r6, .int .i64 r7, .int .i64 r8, .int .i64 r9, .int .i64 r10]) ∧ Below w.heap.size w w' := by
  have hu58 := Try.underlying58
  have HR0 := Aside0.mk hr0
  have HC0 := Aside0.mk hc0
  clear hr0 hc0
  have HB := Aside0.mk (Below.refl w.heap.size w)
  unfold impl_lineOf.f at h
  by_cases hl : l0.length ≤ 10
  rotate_left
  · rw [if_neg hl] at h; cases h
  rw [if_pos hl] at h
  have HL := Aside0.mk hl
  have HV : Aside0 (impl_lineOf.Is l0 r1 r2 r3 r4 r5 r6 r7 r8 r9 r10) := ⟨Option.some.inj h⟩
  clear h hl
  go_enter Try.func60, Try.ntmps60
  go_wp2_with (first | ((with_reducible refine gate_dst (N := 2) rfl ?_); refine box_event ?hg (N := 2) ?hd (cs := #[.int .i64 0, .int .i64 0, .int .i64 0, .int .i64 0, .int .i64 0, .int .i64 0, .int .i64 0, .int .i64 0, .int .i64 0, .int .i64 0]) (t := 58) ?hr ?_; (case hd => rfl); (case hg => rfl); (case hr => first | (go_simp; done) | (go_simp; rfl)); intro g2 hg w2 hbox hb; have BK2 := Aside0.mk hbox; have LT2 := Aside0.mk (blk_lt hbox); have GE2 := Aside0.mk (show w.heap.size ≤ g2 by omega); have HB2 := Aside0.mk (HB.out.trans hb); clear HB hbox hb hg) | ((with_reducible refine gate_dst (N := 3) rfl ?_); refine box_event ?hg (N := 3) ?hd (cs := #[.int .i64 0, .int .i64 0, .int .i64 0, .int .i64 0, .int .i64 0, .int .i64 0, .int .i64 0, .int .i64 0, .int .i64 0, .int .i64 0]) (t := 58) ?hr ?_; (case hd => rfl); (case hg => rfl); (case hr => first | (go_simp; done) | (go_simp; rfl)); intro g3 hg w3 hbox hb; have BK3 := Aside0.mk hbox; have hne : g2 ≠ g3 := (by have := LT2.out; omega); have hne2 : g3 ≠ g2 := fun e => hne e.symm; have LT3 := Aside0.mk (show g2 < g3 by have := LT2.out; omega); have GE3 := Aside0.mk (show w.heap.size ≤ g3 by have := GE2.out; have := LT2.out; omega); have BK2' := Aside0.mk (blk_below BK2.out hb); clear BK2; have HB3 := Aside0.mk (HB2.out.trans (Below.mono hb HB2.out.size)); clear HB2 hbox hb hg; have zc0 : w3.cell? ⟨g3, 0, none⟩ = some (.int .i64 0) := (blk_cell BK3.out 0).trans rfl; have zf0 := blk_frozen BK3.out 0; have zc1 : w3.cell? ⟨g3, 1, none⟩ = some (.int .i64 0) := (blk_cell BK3.out 1).trans rfl; have zf1 := blk_frozen BK3.out 1; have zc2 : w3.cell? ⟨g3, 2, none⟩ = some (.int .i64 0) := (blk_cell BK3.out 2).trans rfl; have zf2 := blk_frozen BK3.out 2; have zc3 : w3.cell? ⟨g3, 3, none⟩ = some (.int .i64 0) := (blk_cell BK3.out 3).trans rfl; have zf3 := blk_frozen BK3.out 3; have zc4 : w3.cell? ⟨g3, 4, none⟩ = some (.int .i64 0) := (blk_cell BK3.out 4).trans rfl; have zf4 := blk_frozen BK3.out 4; have zc5 : w3.cell? ⟨g3, 5, none⟩ = some (.int .i64 0) := (blk_cell BK3.out 5).trans rfl; have zf5 := blk_frozen BK3.out 5; have zc6 : w3.cell? ⟨g3, 6, none⟩ = some (.int .i64 0) := (blk_cell BK3.out 6).trans rfl; have zf6 := blk_frozen BK3.out 6; have zc7 : w3.cell? ⟨g3, 7, none⟩ = some (.int .i64 0) := (blk_cell BK3.out 7).trans rfl; have zf7 := blk_frozen BK3.out 7; have zc8 : w3.cell? ⟨g3, 8, none⟩ = some (.int .i64 0) := (blk_cell BK3.out 8).trans rfl; have zf8 := blk_frozen BK3.out 8; have zc9 : w3.cell? ⟨g3, 9, none⟩ = some (.int .i64 0) := (blk_cell BK3.out 9).trans rfl; have zf9 := blk_frozen BK3.out 9) | ((with_reducible refine wpList_copy_splice rfl (.tmp 5) (.tmp 6) 22 22 rfl 3 Try.underlying22 impl_lineOf.sz (some ⟨g3, 0, none⟩) A0 10 10 l0.length c0 rfl rfl g3 0 [Value.int .i64 0, Value.int .i64 0, Value.int .i64 0, Value.int .i64 0, Value.int .i64 0, Value.int .i64 0, Value.int .i64 0, Value.int .i64 0, Value.int .i64 0, Value.int .i64 0] 58 ?cg (l0.map (Value.int .i64)) ?cn ?cp ?cf ?c1 g3 _ (Below.refl _ _) (Nat.le_refl _) ?_); (case cg => ((with_reducible repeat (refine blk_put (cs := #[Value.int .i64 0, Value.int .i64 0, Value.int .i64 0, Value.int .i64 0, Value.int .i64 0, Value.int .i64 0, Value.int .i64 0, Value.int .i64 0, Value.int .i64 0, Value.int .i64 0]) ?_ _ _ rfl)); exact BK3.out)); (case cn => (have := HL.out; rw [List.length_map]; exact (Nat.min_eq_left this).symm)); (case cp => exact fun h_ => ⟨rfl, impl_lineOf.src (Kd.C_below HR0.out (by repeat (with_reducible first | exact HB3.out | refine below_set ?_ GE3.out))) (by rw [List.length_map] at h_; exact h_)⟩); (case cf => (have := HL.out; rw [List.length_map]; simpa using this)); (case c1 => exact impl_lineOf.one l0); intro w4 hk hb4; have BK4 := Aside0.mk (impl_lineOf.sp hk.out HL.out HV.out); have BK5 : Aside0 (w4.heap[g2]? = some (.cells #[.int .i64 0, .int .i64 0, .int .i64 0, .int .i64 0, .int .i64 0, .int .i64 0, .int .i64 0, .int .i64 0, .int .i64 0, .int .i64 0] 58 (0, 0))) := ⟨(hb4.block g2 LT3.out).trans (by (with_reducible repeat (refine blk_far ?_ (show g2 ≠ (Addr.mk g3 _ none).block from hne) _)); exact BK2'.out)⟩; have HB4 : Aside0 (Below w.heap.size w w4) := ⟨below_then_ (by repeat (with_reducible first | exact HB3.out | refine below_set ?_ GE3.out)) GE3.out hb4⟩; clear hk hb4 BK3 BK2' HB3; clear zc0 zf0 zc1 zf1 zc2 zf2 zc3 zf3 zc4 zf4 zc5 zf5 zc6 zf6 zc7 zf7 zc8 zf8 zc9 zf9; have zc0 : w4.cell? ⟨g3, 0, none⟩ = some (.int .i64 r1) := (blk_cell BK4.out 0).trans rfl; have zf0 := blk_frozen BK4.out 0; have zc1 : w4.cell? ⟨g3, 1, none⟩ = some (.int .i64 r2) := (blk_cell BK4.out 1).trans rfl; have zf1 := blk_frozen BK4.out 1; have zc2 : w4.cell? ⟨g3, 2, none⟩ = some (.int .i64 r3) := (blk_cell BK4.out 2).trans rfl; have zf2 := blk_frozen BK4.out 2; have zc3 : w4.cell? ⟨g3, 3, none⟩ = some (.int .i64 r4) := (blk_cell BK4.out 3).trans rfl; have zf3 := blk_frozen BK4.out 3; have zc4 : w4.cell? ⟨g3, 4, none⟩ = some (.int .i64 r5) := (blk_cell BK4.out 4).trans rfl; have zf4 := blk_frozen BK4.out 4; have zc5 : w4.cell? ⟨g3, 5, none⟩ = some (.int .i64 r6) := (blk_cell BK4.out 5).trans rfl; have zf5 := blk_frozen BK4.out 5; have zc6 : w4.cell? ⟨g3, 6, none⟩ = some (.int .i64 r7) := (blk_cell BK4.out 6).trans rfl; have zf6 := blk_frozen BK4.out 6; have zc7 : w4.cell? ⟨g3, 7, none⟩ = some (.int .i64 r8) := (blk_cell BK4.out 7).trans rfl; have zf7 := blk_frozen BK4.out 7; have zc8 : w4.cell? ⟨g3, 8, none⟩ = some (.int .i64 r9) := (blk_cell BK4.out 8).trans rfl; have zf8 := blk_frozen BK4.out 8; have zc9 : w4.cell? ⟨g3, 9, none⟩ = some (.int .i64 r10) := (blk_cell BK4.out 9).trans rfl; have zf9 := blk_frozen BK4.out 9; have yc0 : w4.cell? ⟨g2, 0, none⟩ = some (.int .i64 0) := (blk_cell BK5.out 0).trans rfl; have yf0 := blk_frozen BK5.out 0; have yc1 : w4.cell? ⟨g2, 1, none⟩ = some (.int .i64 0) := (blk_cell BK5.out 1).trans rfl; have yf1 := blk_frozen BK5.out 1; have yc2 : w4.cell? ⟨g2, 2, none⟩ = some (.int .i64 0) := (blk_cell BK5.out 2).trans rfl; have yf2 := blk_frozen BK5.out 2; have yc3 : w4.cell? ⟨g2, 3, none⟩ = some (.int .i64 0) := (blk_cell BK5.out 3).trans rfl; have yf3 := blk_frozen BK5.out 3; have yc4 : w4.cell? ⟨g2, 4, none⟩ = some (.int .i64 0) := (blk_cell BK5.out 4).trans rfl; have yf4 := blk_frozen BK5.out 4; have yc5 : w4.cell? ⟨g2, 5, none⟩ = some (.int .i64 0) := (blk_cell BK5.out 5).trans rfl; have yf5 := blk_frozen BK5.out 5; have yc6 : w4.cell? ⟨g2, 6, none⟩ = some (.int .i64 0) := (blk_cell BK5.out 6).trans rfl; have yf6 := blk_frozen BK5.out 6; have yc7 : w4.cell? ⟨g2, 7, none⟩ = some (.int .i64 0) := (blk_cell BK5.out 7).trans rfl; have yf7 := blk_frozen BK5.out 7; have yc8 : w4.cell? ⟨g2, 8, none⟩ = some (.int .i64 0) := (blk_cell BK5.out 8).trans rfl; have yf8 := blk_frozen BK5.out 8; have yc9 : w4.cell? ⟨g2, 9, none⟩ = some (.int .i64 0) := (blk_cell BK5.out 9).trans rfl; have yf9 := blk_frozen BK5.out 9))
  refine bodyPost_ret (results_cell_row rfl _ _ g2 58 #[.int .i64 r1, .int .i64 r2, .int .i64 r3, .int .i64 r4, .int .i64 r5, .int .i64 r6, .int .i64 r7, .int .i64 r8, .int .i64 r9, .int .i64 r10] (0, 0) _ rfl ?_ Try.underlying58 rfl (by kernel_rfl)) rfl ⟨rfl, ?_⟩
  · refine blk_put (cs := #[.int .i64 r1, .int .i64 r2, .int .i64 r3, .int .i64 r4, .int .i64 r5, .int .i64 r6, .int .i64 r7, .int .i64 r8, .int .i64 r9, .int .i64 0]) ?_ 9 _ rfl
    refine blk_put (cs := #[.int .i64 r1, .int .i64 r2, .int .i64 r3, .int .i64 r4, .int .i64 r5, .int .i64 r6, .int .i64 r7, .int .i64 r8, .int .i64 0, .int .i64 0]) ?_ 8 _ rfl
    refine blk_put (cs := #[.int .i64 r1, .int .i64 r2, .int .i64 r3, .int .i64 r4, .int .i64 r5, .int .i64 r6, .int .i64 r7, .int .i64 0, .int .i64 0, .int .i64 0]) ?_ 7 _ rfl
    refine blk_put (cs := #[.int .i64 r1, .int .i64 r2, .int .i64 r3, .int .i64 r4, .int .i64 r5, .int .i64 r6, .int .i64 0, .int .i64 0, .int .i64 0, .int .i64 0]) ?_ 6 _ rfl
    refine blk_put (cs := #[.int .i64 r1, .int .i64 r2, .int .i64 r3, .int .i64 r4, .int .i64 r5, .int .i64 0, .int .i64 0, .int .i64 0, .int .i64 0, .int .i64 0]) ?_ 5 _ rfl
    refine blk_put (cs := #[.int .i64 r1, .int .i64 r2, .int .i64 r3, .int .i64 r4, .int .i64 0, .int .i64 0, .int .i64 0, .int .i64 0, .int .i64 0, .int .i64 0]) ?_ 4 _ rfl
    refine blk_put (cs := #[.int .i64 r1, .int .i64 r2, .int .i64 r3, .int .i64 0, .int .i64 0, .int .i64 0, .int .i64 0, .int .i64 0, .int .i64 0, .int .i64 0]) ?_ 3 _ rfl
    refine blk_put (cs := #[.int .i64 r1, .int .i64 r2, .int .i64 0, .int .i64 0, .int .i64 0, .int .i64 0, .int .i64 0, .int .i64 0, .int .i64 0, .int .i64 0]) ?_ 2 _ rfl
    refine blk_put (cs := #[.int .i64 r1, .int .i64 0, .int .i64 0, .int .i64 0, .int .i64 0, .int .i64 0, .int .i64 0, .int .i64 0, .int .i64 0, .int .i64 0]) ?_ 1 _ rfl
    refine blk_put (cs := #[.int .i64 0, .int .i64 0, .int .i64 0, .int .i64 0, .int .i64 0, .int .i64 0, .int .i64 0, .int .i64 0, .int .i64 0, .int .i64 0]) ?_ 0 _ rfl
    exact BK5.out
  · repeat (with_reducible first | exact HB4.out | refine below_set ?_ GE2.out)
end Go.Proofs.Ytjahclncpgllmaa.F
end

section
namespace Go.Proofs.Ytjahclncpgllmaa.Q
open Go.RowKit Go.Proofs.YtjahclncpgllmaaW.PrintWords Go.Proofs.Ytjahclncpgllmaa.F
set_option linter.unusedVariables false
abbrev I10 := Int × Int × Int × Int × Int × Int × Int × Int × Int × Int
def T10 (w : List Int) : I10 := (w.getD 0 0, w.getD 1 0, w.getD 2 0, w.getD 3 0, w.getD 4 0, w.getD 5 0, w.getD 6 0, w.getD 7 0, w.getD 8 0, w.getD 9 0)
theorem lineOf_eq {w : List Int} (h : w.length ≤ 10) : impl_lineOf.f w = some (T10 w) := by unfold impl_lineOf.f; rw [if_pos h]; rfl
def list10 (w : List Int) (n : Int) : Option (List Int) := impl_line_list.f (w.getD 0 0) (w.getD 1 0) (w.getD 2 0) (w.getD 3 0) (w.getD 4 0) (w.getD 5 0) (w.getD 6 0) (w.getD 7 0) (w.getD 8 0) (w.getD 9 0) n
theorem list10_eq {w : List Int} {n : Nat} (hn : w.length = n) (h : n ≤ 10) : list10 w (n : Int) = some w := by
  unfold list10 impl_line_list.f
  rw [if_pos (by omega), Int.toNat_natCast]
  subst hn
  congr 1
  refine ext_getD (by rw [List.length_take]; simp only [List.length_cons, List.length_nil]; omega) (fun i hi => ?_)
  rw [List.length_take] at hi
  have h1 : i < w.length := by omega
  have h2 : i < 10 := by omega
  rw [List.getD_eq_getElem?_getD, List.getElem?_take, if_pos h1]
  match i, h2 with
  | 0, _ => rfl
  | 1, _ => rfl
  | 2, _ => rfl
  | 3, _ => rfl
  | 4, _ => rfl
  | 5, _ => rfl
  | 6, _ => rfl
  | 7, _ => rfl
  | 8, _ => rfl
  | 9, _ => rfl
  | _ + 10, h => exact absurd h (by omega)
/-- What each of the program's exchanges does. -/
def exG (p : List Int) (a b : Int) (t t' : I10) : Option I10 :=
  if 0 ≤ a then (if a < (p.length : Int) then ((impl_has.f (rd p a) b).bind fun q => (if q = true then (some t) else (if 0 ≤ b then (if b < (p.length : Int) then ((impl_has.f (rd p b) a).bind fun q2 => (if q2 = true then (some t) else (some t'))) else (none)) else (none)))) else (none)) else (none)
theorem exG_eq {p : List Int} (hp : PO p) {a b : Nat} (ha : a < p.length) (hb : b < p.length) (h : (L p a).testBit b = false) (t t' : I10) :
    exG p (a : Int) (b : Int) t t' = some (if (L p b).testBit a then t else t') := by
  have hn := hp.small
  unfold exG
  rw [if_pos (by omega), if_pos (by omega), rdN, hp.val a ha, has_eq (lt_pow (L_lt hp ha) (by omega)) (by omega), h]
  simp only [Option.bind_some]
  rw [if_neg (by simp), if_pos (by omega), if_pos (by omega), rdN, hp.val b hb, has_eq (lt_pow (L_lt hp hb) (by omega)) (by omega)]
  simp only [Option.bind_some]
  cases (L p b).testBit a <;> rfl
def ex10 (p w : List Int) (i : Int) : Option I10 := impl_Poset_exchange.f p (w.getD 0 0) (w.getD 1 0) (w.getD 2 0) (w.getD 3 0) (w.getD 4 0) (w.getD 5 0) (w.getD 6 0) (w.getD 7 0) (w.getD 8 0) (w.getD 9 0) i
theorem ex10_eq {p : List Int} (hp : PO p) {w : List Int} (h : ordB p w = true) {i : Nat} (hi : i + 1 < w.length) : ex10 p w (i : Int) = some (T10 (togL p w i)) := by
  obtain ⟨a, b, s, x, y, H⟩ := ord_at h hi
  have hn := hp.small
  have hl := ordB_len h
  obtain ⟨ga, gb⟩ := H.get
  have key : ∀ t', t' = T10 (swp w i) → exG p (w.getD i 0) (w.getD (i + 1) 0) (T10 w) t' = some (T10 (togL p w i)) := by
    rintro t' rfl
    rw [ga, gb, exG_eq hp H.ha H.hb H.ba, H.tog]
    cases (L p b).testBit a <;> rfl
  have sg := swp_getD hi
  clear ga gb H
  unfold ex10 impl_Poset_exchange.f
  match i, hi with
  | 0, _ => rw [if_pos (by decide)]; exact key _ (by unfold T10; simp only [sg] <;> rfl)
  | 1, _ => rw [if_neg (by decide), if_pos (by decide)]; exact key _ (by unfold T10; simp only [sg] <;> rfl)
  | 2, _ => rw [if_neg (by decide), if_neg (by decide), if_pos (by decide)]; exact key _ (by unfold T10; simp only [sg] <;> rfl)
  | 3, _ => rw [if_neg (by decide), if_neg (by decide), if_neg (by decide), if_pos (by decide)]; exact key _ (by unfold T10; simp only [sg] <;> rfl)
  | 4, _ => rw [if_neg (by decide), if_neg (by decide), if_neg (by decide), if_neg (by decide), if_pos (by decide)]; exact key _ (by unfold T10; simp only [sg] <;> rfl)
  | 5, _ => rw [if_neg (by decide), if_neg (by decide), if_neg (by decide), if_neg (by decide), if_neg (by decide), if_pos (by decide)]; exact key _ (by unfold T10; simp only [sg] <;> rfl)
  | 6, _ => rw [if_neg (by decide), if_neg (by decide), if_neg (by decide), if_neg (by decide), if_neg (by decide), if_neg (by decide), if_pos (by decide)]; exact key _ (by unfold T10; simp only [sg] <;> rfl)
  | 7, _ => rw [if_neg (by decide), if_neg (by decide), if_neg (by decide), if_neg (by decide), if_neg (by decide), if_neg (by decide), if_neg (by decide), if_pos (by decide)]; exact key _ (by unfold T10; simp only [sg] <;> rfl)
  | 8, _ => rw [if_neg (by decide), if_neg (by decide), if_neg (by decide), if_neg (by decide), if_neg (by decide), if_neg (by decide), if_neg (by decide), if_neg (by decide), if_pos (by decide)]; exact key _ (by unfold T10; simp only [sg] <;> rfl)
  | _ + 9, hj => exact absurd hj (by omega)
theorem l1Own_eq {w : List Int} (h : w.length ≤ 1000) : spec_l1Own.f w = some w := by
  unfold spec_l1Own.f
  simp only [Option.bind_some]
  rw [if_pos (by simp; omega)]; rfl
theorem liToggle_eq {p : List Int} (hp : PO p) {w : List Int} (h : ordB p w = true) {i : Nat} (hi : i + 1 < w.length) : spec_liToggle.f p w (i : Int) = some (togL p w i) := by
  obtain ⟨a, b, s, x, y, H⟩ := ord_at h hi
  have hn := hp.small
  have hl := ordB_len h
  have ha := H.ha
  have hb := H.hb
  unfold spec_liToggle.f
  rw [l1Own_eq (by omega)]
  simp only [Option.bind_some]
  rw [wid1 (i := i) (n := w.length) (by omega) (by omega), if_pos (by omega), if_pos (by omega), if_pos (by omega), if_pos (by omega), rdN, rdN, H.get.1, H.get.2]
  have e : spec_liLess.f p (a : Int) (b : Int) = some ((L p b).testBit a) := by
    unfold spec_liLess.f
    rw [if_pos (by omega), if_pos (by omega), rdN, hp.val b hb, poIn_eq (by omega)]; rfl
  rw [e, H.tog]
  simp only [Option.bind_some]
  cases hc : (L p b).testBit a with
  | true => rw [if_pos rfl, if_pos rfl]
  | false =>
    rw [if_neg (by simp), if_pos (by omega), if_pos (by omega), if_neg (by simp), Int.toNat_natCast, Int.toNat_natCast]
    unfold swp
    rw [H.get.1, H.get.2]
end Go.Proofs.Ytjahclncpgllmaa.Q
end

section
namespace Go.Proofs.Ytjahclncpgllmaa.Q
open Go.RowKit Go.Proofs.YtjahclncpgllmaaW.PrintWords Go.Proofs.Ytjahclncpgllmaa.F
set_option linter.unusedVariables false
theorem upL_len (p w : List Int) : ∀ d, (upL p w d).length = w.length := by
  intro d
  induction d with
  | zero => rfl
  | succ d ih => unfold upL; rw [togL_len, ih]
theorem liUp_ev {p : List Int} (hp : PO p) {w : List Int} (hw : ordB p w = true) (d : Nat) (hd : d + 1 ≤ w.length) : Ev (fun k => spec_liUp.f k p w (d : Int)) (upL p w d) := by
  have hn := hp.small
  have hl := ordB_len hw
  unfold spec_liUp.f
  have key : ∀ i, i ≤ d → Ev (fun k => spec_liUp.l0 k (upL p w i) (d : Int) (i : Int) p) (upL p w d) := by
    refine downTo _ ?_ ?_
    · exact Ev.step (by intro k; simp only [spec_liUp.l0]; rfl) (Ev.no (by omega) (Ev.now _))
    · intro i hi ih
      have := upL_ok hw i (by omega)
      refine Ev.step (by intro k; simp only [spec_liUp.l0]; rfl) (Ev.yes (by omega) (Ev.call (liToggle_eq hp this.1 (by omega)) ?_))
      rw [wid1 hi (by omega)]
      exact ih
  exact key 0 (by omega)
def proL (p w : List Int) : List Int := upL p w (p.length - 1)
def pro10 (k : Nat) (p w : List Int) : Option I10 := impl_Poset_promoted.f k p (w.getD 0 0) (w.getD 1 0) (w.getD 2 0) (w.getD 3 0) (w.getD 4 0) (w.getD 5 0) (w.getD 6 0) (w.getD 7 0) (w.getD 8 0) (w.getD 9 0)
theorem pro10_ev {p : List Int} (hp : PO p) {w : List Int} (hw : ordB p w = true) : Ev (fun k => pro10 k p w) (T10 (proL p w)) := by
  have h1 := hp.pos
  have h2 := hp.small
  have hl := ordB_len hw
  unfold pro10 impl_Poset_promoted.f
  refine Ev.call (show impl_Poset_n.f p = some (p.length : Int) from rfl) ?_
  have ew : wrap64 ((p.length : Int) - 1) = ((p.length - 1 : Nat) : Int) := by rw [wid (by omega) (by omega)]; omega
  rw [ew]
  have key : ∀ i, i ≤ p.length - 1 → ∀ v, v = upL p w i → Ev (fun k => impl_Poset_promoted.l0 k ((p.length - 1 : Nat) : Int) (i : Int) p (v.getD 0 0) (v.getD 1 0) (v.getD 2 0) (v.getD 3 0) (v.getD 4 0) (v.getD 5 0) (v.getD 6 0) (v.getD 7 0) (v.getD 8 0) (v.getD 9 0)) (T10 (proL p w)) := by
    refine downTo _ ?_ ?_
    · rintro v rfl
      exact Ev.step (by intro k; simp only [impl_Poset_promoted.l0]; rfl) (Ev.no (by omega) (Ev.now _))
    · rintro i hi ih v rfl
      have := upL_ok hw i (by omega)
      refine Ev.step (by intro k; simp only [impl_Poset_promoted.l0]; rfl) (Ev.yes (by omega) (Ev.call (ex10_eq hp this.1 (by omega)) ?_))
      rw [wid1 (i := i) (n := p.length) (by omega) (by omega)]
      exact ih _ rfl
  exact key 0 (by omega) w rfl
def unL (p w : List Int) : List Int := dnL p 0 w (p.length - 1)
def un10 (k : Nat) (p w : List Int) : Option I10 := impl_Poset_unpromoted.f k p (w.getD 0 0) (w.getD 1 0) (w.getD 2 0) (w.getD 3 0) (w.getD 4 0) (w.getD 5 0) (w.getD 6 0) (w.getD 7 0) (w.getD 8 0) (w.getD 9 0)
theorem un10_ev {p : List Int} (hp : PO p) {w : List Int} (hw : ordB p w = true) : Ev (fun k => un10 k p w) (T10 (unL p w)) := by
  have h1 := hp.pos
  have h2 := hp.small
  have hl := ordB_len hw
  unfold un10 impl_Poset_unpromoted.f
  refine Ev.call (show impl_Poset_n.f p = some (p.length : Int) from rfl) ?_
  have ew : wrap64 ((p.length : Int) - 2) = ((p.length - 1 : Nat) : Int) - 1 := by rw [wid (by omega) (by omega)]; omega
  rw [ew]
  have key : ∀ d, d + 1 ≤ p.length → ∀ v, ordB p v = true → Ev (fun k => impl_Poset_unpromoted.l0 k ((d : Int) - 1) p (v.getD 0 0) (v.getD 1 0) (v.getD 2 0) (v.getD 3 0) (v.getD 4 0) (v.getD 5 0) (v.getD 6 0) (v.getD 7 0) (v.getD 8 0) (v.getD 9 0)) (T10 (dnL p 0 v d)) := by
    intro d
    induction d with
    | zero => intro _ v _; exact Ev.step (by intro k; simp only [impl_Poset_unpromoted.l0]; rfl) (Ev.no (by omega) (Ev.now _))
    | succ d ih =>
      intro hd v hv
      have hlv := ordB_len hv
      have hi : d + 1 < v.length := by omega
      have ei : ((d + 1 : Nat) : Int) - 1 = (d : Int) := by omega
      rw [ei]
      refine Ev.step (by intro k; simp only [impl_Poset_unpromoted.l0]; rfl) (Ev.yes (by omega) (Ev.call (ex10_eq hp hv hi) ?_))
      rw [show wrap64 ((d : Int) - 1) = (d : Int) - 1 from wid (by omega) (by omega)]
      have := ih (by omega) (togL p v d) (togL_ord hv hi)
      unfold dnL
      rw [Nat.zero_add]
      exact this
  exact key (p.length - 1) (by omega) w hw
/-- Evacuation: toggles below d, below d - 1, and so on. -/
def evL (p : List Int) : List Int → Nat → List Int
  | w, 0 => w
  | w, d + 1 => evL p (upL p w (d + 1)) d
theorem evL_ok {p : List Int} : ∀ (d : Nat) (w : List Int), ordB p w = true → d + 1 ≤ w.length → ordB p (evL p w d) = true ∧ (evL p w d).length = w.length := by
  intro d
  induction d with
  | zero => intro w h _; exact ⟨h, rfl⟩
  | succ d ih =>
    intro w h hd
    have h1 := upL_ok h (d + 1) hd
    obtain ⟨g1, g2⟩ := ih (upL p w (d + 1)) h1.1 (by omega)
    exact ⟨g1, by rw [show evL p w (d + 1) = evL p (upL p w (d + 1)) d from rfl, g2, h1.2]⟩
theorem liEvacuate_ev {p : List Int} (hp : PO p) {w : List Int} (hw : ordB p w = true) : Ev (fun k => spec_liEvacuate.f k p w) (evL p w (p.length - 1)) := by
  have h1 := hp.pos
  have h2 := hp.small
  have hl := ordB_len hw
  unfold spec_liEvacuate.f
  rw [show wrap64 ((w.length : Int) - 1) = ((p.length - 1 : Nat) : Int) by rw [wid (by omega) (by omega)]; omega]
  have key : ∀ d, d + 1 ≤ p.length → ∀ v, ordB p v = true → Ev (fun k => spec_liEvacuate.l0 k v (d : Int) p) (evL p v d) := by
    intro d
    induction d with
    | zero =>
      intro _ v hv
      have := ordB_len hv
      exact Ev.step (by intro k; simp only [spec_liEvacuate.l0]; rfl) (Ev.no (by omega) (Ev.call (l1Own_eq (w := v) (by omega)) (Ev.now _)))
    | succ d ih =>
      intro hd v hv
      have hlv := ordB_len hv
      refine Ev.step (by intro k; simp only [spec_liEvacuate.l0]; rfl) (Ev.yes (by omega) (Ev.bind (liUp_ev hp hv (d + 1) (by omega)) ?_))
      rw [show wrap64 (((d + 1 : Nat) : Int) - 1) = (d : Int) by rw [wid (by omega) (by omega)]; omega]
      exact ih (by omega) _ (upL_ok hv (d + 1) (by omega)).1
  exact key (p.length - 1) (by omega) w hw
def ev10 (k : Nat) (p w : List Int) : Option I10 := impl_Poset_evacuated.f k p (w.getD 0 0) (w.getD 1 0) (w.getD 2 0) (w.getD 3 0) (w.getD 4 0) (w.getD 5 0) (w.getD 6 0) (w.getD 7 0) (w.getD 8 0) (w.getD 9 0)
theorem ev10_ev {p : List Int} (hp : PO p) {w : List Int} (hw : ordB p w = true) : Ev (fun k => ev10 k p w) (T10 (evL p w (p.length - 1))) := by
  have h1 := hp.pos
  have h2 := hp.small
  have hl := ordB_len hw
  unfold ev10 impl_Poset_evacuated.f
  refine Ev.call (show impl_Poset_n.f p = some (p.length : Int) from rfl) ?_
  rw [show wrap64 ((p.length : Int) - 1) = ((p.length - 1 : Nat) : Int) by rw [wid (by omega) (by omega)]; omega]
  have key : ∀ d, d + 1 ≤ p.length → ∀ v, ordB p v = true → Ev (fun k => impl_Poset_evacuated.l0 k (d : Int) p (v.getD 0 0) (v.getD 1 0) (v.getD 2 0) (v.getD 3 0) (v.getD 4 0) (v.getD 5 0) (v.getD 6 0) (v.getD 7 0) (v.getD 8 0) (v.getD 9 0)) (T10 (evL p v d)) := by
    intro d
    induction d with
    | zero => intro _ v hv; exact Ev.step (by intro k; simp only [impl_Poset_evacuated.l0]; rfl) (Ev.no (by omega) (Ev.now _))
    | succ d ih =>
      intro hd v hv
      have hlv := ordB_len hv
      refine Ev.step (by intro k; simp only [impl_Poset_evacuated.l0]; rfl) (Ev.yes (by omega) ?_)
      have inner : ∀ i, i ≤ d + 1 → ∀ u, u = upL p v i → Ev (fun k => impl_Poset_evacuated.l1 k ((d + 1 : Nat) : Int) ((d + 1 : Nat) : Int) (i : Int) p (u.getD 0 0) (u.getD 1 0) (u.getD 2 0) (u.getD 3 0) (u.getD 4 0) (u.getD 5 0) (u.getD 6 0) (u.getD 7 0) (u.getD 8 0) (u.getD 9 0)) (T10 (evL p v (d + 1))) := by
        refine downTo _ ?_ ?_
        · rintro u rfl
          refine Ev.step (by intro k; simp only [impl_Poset_evacuated.l1]; rfl) (Ev.no (by omega) ?_)
          rw [show wrap64 (((d + 1 : Nat) : Int) - 1) = (d : Int) by rw [wid (by omega) (by omega)]; omega]
          exact ih (by omega) _ (upL_ok hv (d + 1) (by omega)).1
        · rintro i hi ihi u rfl
          have := upL_ok hv i (by omega)
          refine Ev.step (by intro k; simp only [impl_Poset_evacuated.l1]; rfl) (Ev.yes (by omega) (Ev.call (ex10_eq hp this.1 (by omega)) ?_))
          rw [wid1 (i := i) (n := p.length) (by omega) (by omega)]
          exact ihi _ rfl
      exact inner 0 (by omega) v rfl
  exact key (p.length - 1) (by omega) w hw
end Go.Proofs.Ytjahclncpgllmaa.Q
end

section
namespace Go.Proofs.Ytjahclncpgllmaa.F
open Go.RowKit Go.Proofs.YtjahclncpgllmaaW.PrintWords Go.Proofs.YtjahclncpgllmaaW.PrintLast Go.Proofs.YtjahclncpgllmaaW.PrintMore
set_option linter.unusedVariables false
set_option linter.unusedSimpArgs false
/-- Whether an element is struck. -/
def nextDel (p : List Int) (s x : Int) : Bool := Go.bits .andNot .i64 (rd p x) s != 0
def impl_Poset_next.f (k : Nat) (l0_0 : List Int) (a1 : Int) : Option (List Int) :=
  (impl_Poset_all.f l0_0).bind fun t => (impl_items.f k (Go.bits .andNot .i64 t a1)).bind fun l => if (∀ x ∈ l, 0 ≤ x ∧ x < (l0_0.length : Int)) ∧ (1 ≤ l0_0.length ∧ l.length ≤ 1000) then some (l.filter fun x => !nextDel l0_0 a1 x) else none
theorem impl_Poset_next.mono : ∀ a0 a1 k, LeO (impl_Poset_next.f k a0 a1) (impl_Poset_next.f (k + 1) a0 a1) := fun a0 a1 k => LeO.bind (LeO.refl _) (fun _ => LeO.bind (impl_items.mono _ _) (fun _ => LeO.refl _))
set_option maxHeartbeats 8000000 in
set_option maxRecDepth 100000 in
theorem next_lit (gp gs : Nat) (e : Nat) (A0 : Option Addr) (c0 : Nat) (p : List Int) (s : Int) (w : World) (hp : w.cell? ⟨gp, 0, none⟩ = some (.slice A0 p.length c0)) (hs : w.cell? ⟨gs, 0, none⟩ = some (.int .i64 s)) (hr : Kd.C (Kd.int .i64) w A0 p.length p) (he : e < p.length) :
    Calls Try.prog 103 #[.int .i64 (e : Int), .pointer (some ⟨gp, 0, none⟩), .pointer (some ⟨gs, 0, none⟩)] w fun en w' => en = .returned (.bool (nextDel p s (e : Int))) ∧ ∃ q, w' = w.drewN q := by
  have hu28 := Try.underlying28
  unfold nextDel
  obtain ⟨ad, rfl, hc⟩ := Kd.at_int hr (e : Int) (by omega) (by omega)
  rw [Int.toNat_natCast] at hc
  have c1 : 0 ≤ (e : Int) := by omega
  have c2 : (e : Int) < (p.length : Int) := by omega
  have c3 : decide (e < p.length) = true := decide_eq_true he
  have c4 : (e < p.length) = True := eq_true he
  clear hr
  go_enter Try.func103, Try.ntmps103
  go_wp2_with (fail)
  go_quiet (fail)
  go_wp2
  go_ret
  exact ⟨rfl, _, rfl⟩
def next_ren : Go.Shelf.Ren := ⟨fun | 6 => 77 | 10 => 102 | n => n, fun | 0 => 0 | 3 => 3 | 4 => 4 | 22 => 22 | 23 => 3 | 25 => 72 | n => n, fun n => n⟩
theorem next_lay : SlLaysH.n10 Try.prog next_ren := {
  mixed := by kernel_rfl
  f6 := ⟨Try.f77.name, by decide, Try.func77⟩
  f10 := ⟨Try.f102.name, by decide, Try.func102⟩
  t0 := by kernel_rfl
  a0 := fun w => by kernel_rfl
  z0 := fun w => by kernel_rfl
  v0 := fun w => by kernel_rfl
  t3 := by kernel_rfl
  a3 := fun w => by kernel_rfl
  z3 := fun w => by kernel_rfl
  v3 := fun w => by kernel_rfl
  t4 := by kernel_rfl
  a4 := fun w => by kernel_rfl
  z4 := fun w => by kernel_rfl
  v4 := fun w => by kernel_rfl
  t22 := by kernel_rfl
  a22 := fun w => by kernel_rfl
  z22 := fun w => by kernel_rfl
  v22 := fun w => by kernel_rfl
  a23 := fun w => by kernel_rfl
  z23 := fun w => by kernel_rfl
  t25 := by kernel_rfl
  a25 := fun w => by kernel_rfl
  z25 := fun w => by kernel_rfl
  v25 := fun w => by kernel_rfl }
def finV {n : Nat} (x : Fin n) : Int := ((x : Nat) : Int)
def finE {n : Nat} (x : Fin n) : Value := .int .i64 (finV x)
theorem fin_list {n : Nat} (l : List Int) (h : ∀ x ∈ l, 0 ≤ x ∧ x < (n : Int)) : ∃ lf : List (Fin n), l = lf.map finV := by
  induction l with
  | nil => exact ⟨[], rfl⟩
  | cons x l ih =>
    obtain ⟨lf, e⟩ := ih (fun y hy => h y (List.mem_cons_of_mem _ hy))
    have hx := h x List.mem_cons_self
    refine ⟨⟨x.toNat, by omega⟩ :: lf, ?_⟩
    rw [List.map_cons, ← e]
    show _ = finV _ :: l
    unfold finV
    congr 1
    show x = ((x.toNat : Nat) : Int)
    omega
theorem next_C {w W : World} {A : Option Addr} {n : Nat} {p : List Int} (h : Kd.C (Kd.int .i64) w A n p) (hc : ∀ a : Addr, A.map (·.block) = some a.block → ∀ v, w.cell? a = some v → W.cell? a = some v) : Kd.C (Kd.int .i64) W A n p := by
  obtain ⟨h1, h2, h3⟩ := Kd.reads_of_C (d := (0 : Int)) h
  refine Kd.C_of_reads (d := (0 : Int)) ⟨h1, h2, fun hn => ?_⟩
  obtain ⟨ad, e, hr⟩ := h3 hn
  refine ⟨ad, e, fun j hj => hc _ ?_ _ (hr j hj)⟩
  subst e
  unfold Addr.add
  split <;> rfl
section
open Go.Sort Go.Shelf Go.Lib
theorem next_del {n : Nat} (hn : 0 < n) (gp gs g cap : Nat) (lf : List (Fin n)) (A0 : Option Addr) (c0 : Nat) (p : List Int) (hpn : p.length = n) (s : Int) (W : World) (base : Nat) (ok : Nat → Prop)
    (hR : Kd.R (Kd.int .i64) 3 W base ok (.slice (some ⟨g, 0, none⟩) (lf.map finV).length cap) (lf.map finV)) (hl : lf.length ≤ 1000) (hp : W.cell? ⟨gp, 0, none⟩ = some (.slice A0 p.length c0)) (hs : W.cell? ⟨gs, 0, none⟩ = some (.int .i64 s)) (hr : Kd.C (Kd.int .i64) W A0 p.length p)
    (n1 : gp ≠ g) (n2 : gs ≠ g) (n3 : ∀ ad, A0 = some ad → ad.block ≠ g) :
    Calls Try.prog 102 #[.slice (some ⟨g, 0, none⟩) (lf.map finV).length cap, .func (.func 103) #[] #[.pointer (some ⟨gp, 0, none⟩), .pointer (some ⟨gs, 0, none⟩)]] W fun e w' =>
      ∃ v : Value, e = .returned v ∧ Kd.R (Kd.int .i64) 3 w' base ok v ((lf.map finV).filter fun x => !nextDel p s x) ∧ W.grownBy w' (some g) := by
  have hInh : Inhabited (Fin n) := ⟨⟨0, hn⟩⟩
  have hown := Kd.own_of_R hR
  have hok := hR.1
  obtain ⟨hx1, hx2⟩ := hown
  rcases hx2 with ⟨e, _⟩ | ⟨g', cap', cur, e, hg, hh, hnc, hcm, hcs, ht⟩
  · cases e
  injection e with e1 e2 e3
  injection e1 with e4
  injection e4 with e5
  subst e5; subst e3
  have hlen : (lf.map finV).length = lf.length := List.length_map _
  have hcell : ∀ j (hj : j < lf.length), cur[j]? = some (finE lf[j]) := fun j hj => by
    have h1 : (cur.toList.take ((lf.map finV).length * 1))[j]? = some (finE lf[j]) := by
      rw [ht]
      unfold encs
      rw [List.getElem?_map, List.getElem?_map, List.getElem?_eq_getElem hj]; rfl
    rw [List.getElem?_take, if_pos (by omega)] at h1
    simpa using h1
  have hH : Holds (finE (n := n)) W g 0 lf.toArray := fun j hj => by
    have hj' : j < lf.length := by simpa using hj
    refine ⟨?_, blk_frozen hh _⟩
    rw [Nat.zero_add, blk_cell hh j, hcell j hj']
    congr 2
    simp [getElem!_pos, hj']
  have eg : ∀ args w, (callFunc 103 args).run Try.prog w = .ok (.enter 103 args) w := enters_of Try.func103 (by kernel_rfl) rfl
  have lp := World.block_lt_of_cell? W _ hp
  have ls := World.block_lt_of_cell? W _ hs
  have hP : PredAt Try.prog 103 #[.pointer (some ⟨gp, 0, none⟩), .pointer (some ⟨gs, 0, none⟩)] (finE (n := n)) (fun x => nextDel p s (finV x)) W := fun W1 x hb =>
    next_lit gp gs x A0 c0 p s W1 ((hb.cell (p := ⟨gp, 0, none⟩) lp).trans hp) ((hb.cell (p := ⟨gs, 0, none⟩) ls).trans hs) (Kd.C_below hr hb) (by have := x.2; omega)
  have hO : PredOver Try.prog 103 #[.pointer (some ⟨gp, 0, none⟩), .pointer (some ⟨gs, 0, none⟩)] (finE (n := n)) (fun x => nextDel p s (finV x)) g 0 lf.toArray.size W := fun m os dk x _ => by
    have hcl : ∀ a : Addr, a.block ≠ g → ∀ v, W.cell? a = some v → (sortWorld (finE (n := n)) W g 0 m dk os).cell? a = some v := fun a ha v hv => by
      have hlt := World.block_lt_of_cell? W _ hv
      unfold sortWorld
      rw [cell?_grow _ _ _ (by rw [size_putRow]; exact hlt), cell?_putRow_other _ _ _ _ _ _ (Or.inl ha)]
      exact hv
    refine next_lit gp gs x A0 c0 p s _ (hcl _ n1 _ hp) (hcl _ n2 _ hs) (next_C hr (fun a ha v hv => hcl a ?_ v hv)) (by have := x.2; omega)
    cases A0 with
    | none => cases ha
    | some ad =>
      have h3 : ad.block = a.block := Option.some.inj ha
      rw [← h3]; exact n3 ad rfl
  have hcon := AnyE.slices_DeleteFunc next_lay (finE (n := n)) (fun _ => rfl) (fun x => nextDel p s (finV x)) 103 #[.pointer (some ⟨gp, 0, none⟩), .pointer (some ⟨gs, 0, none⟩)] eg ⟨0, hn⟩ (fun w => by kernel_rfl) g 0 cap lf.toArray W hP hO hH (by simp; omega) (by simp; omega)
  have hsz : lf.toArray.size = (lf.map finV).length := by simp
  rw [hsz] at hcon
  refine Calls.mono hcon ?_
  rintro e w' ⟨rfl, q, rfl⟩
  have hf : (lf.map finV).filter (fun x => !nextDel p s x) = (lf.filter fun x => !nextDel p s (finV x)).map finV := by rw [List.filter_map]; rfl
  rw [hf]
  generalize hF : lf.filter (fun x => !nextDel p s (finV x)) = ff
  have hle : ff.length ≤ lf.length := by rw [← hF]; exact List.length_filter_le _ _
  generalize hD : (ff ++ List.replicate ((lf.map finV).length - ff.length) (⟨0, hn⟩ : Fin n)).toArray = D
  have hDs : ff.length ≤ D.size := by rw [← hD]; simp
  have hDg : ∀ j (hj : j < ff.length), D[j]! = ff[j] := fun j hj => by
    rw [getElem!_pos D j (by omega)]
    subst hD
    simp [List.getElem_append_left hj]
  have hhp : (putRow finE (Sort.ahead W q) g 0 D).heap[g]? = some (.cells (putCells finE 0 D cur) 3 (0, 0)) := by
    simp [putRow, mapBlock, Array.getElem?_modify, Sort.ahead, hh, onCells]
  have hown' : (putRow finE (Sort.ahead W q) g 0 D).ownsRow base 3 1 (.slice (some ⟨g, 0, none⟩) ff.length cap) (ff.map finV).length (encs (Value.int .i64) (ff.map finV)) := by
    refine ⟨by simp [encs], .inr ⟨g, cap, putCells finE 0 D cur, by rw [List.length_map], hg, hhp, by rw [List.length_map]; omega, hcm, by simp [putCells]; omega, ?_⟩⟩
    apply List.ext_getElem?
    intro j
    rw [List.getElem?_take]
    unfold encs
    rw [List.getElem?_map, List.getElem?_map, List.length_map, Nat.mul_one]
    by_cases hj : j < ff.length
    · rw [if_pos hj, List.getElem?_eq_getElem hj]
      have hjc : j < cur.size := by omega
      simp only [putCells, Array.getElem?_toList, Array.getElem?_mapIdx, Option.map_some]
      rw [Array.getElem?_eq_getElem hjc, Option.map_some, if_pos (by omega), Nat.sub_zero, hDg j hj]
      rfl
    · rw [if_neg hj, List.getElem?_eq_none (by omega)]; rfl
  refine ⟨_, rfl, Kd.R_of_own hown' (fun k hk => hok k hk), ?_⟩
  refine ⟨rfl, rfl, rfl, ?_, ?_⟩
  · simp [putRow, mapBlock, Sort.ahead]
  · intro k hk hne
    have hne' : g ≠ k := fun e => hne (by rw [e])
    simp [putRow, mapBlock, Array.getElem?_modify, Sort.ahead, hne']
theorem next_nil (A : Option Addr) (c : Nat) (fv : Value) (W : World) : Calls Try.prog 102 #[.slice A 0 c, fv] W fun e w' => e = .returned (.slice A 0 c) ∧ ∃ q, w' = W.drewN q := by
  have hi := Aside0.mk (AnyE.slices_IndexFunc_empty (P := Try.prog) (ρ := next_ren) { next_lay with } A c fv W)
  go_enter Try.func102, Try.ntmps102
  go_wp2_with (go_at_call 77; refine hi.out.mono ?_; rintro e w' ⟨rfl, rfl⟩)
  go_ret
  exact ⟨rfl, 0, rfl⟩
end
theorem next_any (gp gs : Nat) (v : Value) (l : List Int) (A0 : Option Addr) (c0 : Nat) (p : List Int) (s : Int) (W : World) (base : Nat)
    (hR : Kd.R (Kd.int .i64) 3 W base (fun _ => True) v l) (hin : (∀ x ∈ l, 0 ≤ x ∧ x < (p.length : Int)) ∧ (1 ≤ p.length ∧ l.length ≤ 1000)) (hp : W.cell? ⟨gp, 0, none⟩ = some (.slice A0 p.length c0)) (hs : W.cell? ⟨gs, 0, none⟩ = some (.int .i64 s)) (hr : Kd.C (Kd.int .i64) W A0 p.length p)
    (n1 : gp < base) (n2 : gs < base) (n3 : ∀ ad, A0 = some ad → ad.block < base) :
    Calls Try.prog 102 #[v, .func (.func 103) #[] #[.pointer (some ⟨gp, 0, none⟩), .pointer (some ⟨gs, 0, none⟩)]] W fun e w' =>
      ∃ v' : Value, e = .returned v' ∧ Kd.R (Kd.int .i64) 3 w' base (fun _ => True) v' (l.filter fun x => !nextDel p s x) ∧ W.grownBy w' v.ownBlock := by
  rcases (Kd.own_of_R hR).2 with ⟨rfl, h0⟩ | ⟨g, cap, cur, e, hg, hh, r⟩
  · obtain rfl : l = [] := List.length_eq_zero_iff.1 h0
    refine (next_nil none 0 _ W).mono ?_
    rintro e w' ⟨rfl, q, rfl⟩
    exact ⟨_, rfl, Kd.R_nil _ _ _ _ _, ⟨rfl, rfl, rfl, Nat.le_refl _, fun _ _ _ => rfl⟩⟩
  · subst e
    obtain ⟨lf, rfl⟩ := fin_list l hin.1
    refine (next_del (by omega) gp gs g cap lf A0 c0 p rfl s W base _ hR (by have := hin.2.2; rw [List.length_map] at this; exact this) hp hs hr (by omega) (by omega) (fun ad h => by have := n3 ad h; omega)).mono ?_
    rintro e w' ⟨v', rfl, hr', hgr⟩
    exact ⟨v', rfl, hr', hgr⟩
theorem next_held_call {w W w1 : World} {a b : Addr} {u v : Value} (h : W.cell? a = some u ∧ W.cell? b = some v ∧ Below w.heap.size w W) (hb : Below W.heap.size W w1) : w1.cell? a = some u ∧ w1.cell? b = some v ∧ Below w.heap.size w w1 :=
  ⟨(hb.cell (p := a) (World.block_lt_of_cell? _ _ h.1)).trans h.1, (hb.cell (p := b) (World.block_lt_of_cell? _ _ h.2.1)).trans h.2.1, below_step h.2.2 hb⟩
theorem next_held_lt {w W w1 : World} {a b : Addr} {u v : Value} (h : W.cell? a = some u ∧ W.cell? b = some v ∧ Below w.heap.size w W) (hb : Below W.heap.size W w1) : b.block < W.heap.size ∧ w.heap.size ≤ W.heap.size := ⟨World.block_lt_of_cell? _ _ h.2.1, h.2.2.size⟩
theorem next_held_row {W : World} {base b : Nat} {ok : Nat → Prop} {v : Value} {l : List Int} (h : Kd.R (Kd.int .i64) 3 W base ok v l) (hb : b < base) : ∀ k, v.ownBlock = some k → b < k := fun k hk => Nat.lt_of_lt_of_le hb ((Kd.R_bound h).1 k hk).2.1
theorem next_held_grown {w W w1 : World} {u v : Value} {row : Option Nat} (h : W.cell? ⟨w.heap.size, 0, none⟩ = some u ∧ W.cell? ⟨w.heap.size + 1, 0, none⟩ = some v ∧ Below w.heap.size w W) (hg : W.grownBy w1 row) (hr : ∀ k, row = some k → w.heap.size + 1 < k) : w1.cell? ⟨w.heap.size, 0, none⟩ = some u ∧ w1.cell? ⟨w.heap.size + 1, 0, none⟩ = some v ∧ Below w.heap.size w w1 := by
  have l1 : w.heap.size < W.heap.size := World.block_lt_of_cell? _ _ h.1
  have l2 : w.heap.size + 1 < W.heap.size := World.block_lt_of_cell? _ _ h.2.1
  refine ⟨(World.cell?_of_block (hg.block _ l1 (fun e => ?_))).trans h.1, (World.cell?_of_block (hg.block _ l2 (fun e => ?_))).trans h.2.1, h.2.2.trans ⟨hg.os, hg.tape, hg.output, hg.size, fun k hk => hg.block k (by omega) (fun e => ?_)⟩⟩
  · have := hr _ e.symm; change w.heap.size + 1 < w.heap.size at this; omega
  · have := hr _ e.symm; change w.heap.size + 1 < w.heap.size + 1 at this; omega
  · have := hr _ e.symm; omega
theorem next_held_drew {w W : World} {a b : Addr} {u v : Value} (h : W.cell? a = some u ∧ W.cell? b = some v ∧ Below w.heap.size w W) : W.drew.cell? a = some u ∧ W.drew.cell? b = some v ∧ Below w.heap.size w W.drew := ⟨h.1, h.2.1, below_drew h.2.2⟩
theorem next_held_start (w : World) (u v : Value) (t t' : TypeId) : ((w.alloc (.cells #[u] t)).alloc (.cells #[v] t')).cell? ⟨w.heap.size, 0, none⟩ = some u ∧ ((w.alloc (.cells #[u] t)).alloc (.cells #[v] t')).cell? ⟨w.heap.size + 1, 0, none⟩ = some v ∧ Below w.heap.size w ((w.alloc (.cells #[u] t)).alloc (.cells #[v] t')) := by
  refine ⟨?_, ?_, below_alloc (below_alloc (Below.refl _ _) _) _⟩
  · rw [World.cell?_alloc_past _ _ _ (by simp), World.cell?_alloc_at _ _ _ _ rfl]; rfl
  · rw [World.cell?_alloc_at _ _ _ _ (by simp)]; rfl
set_option maxHeartbeats 8000000 in
set_option maxRecDepth 100000 in
theorem impl_Poset_next.calls (k : Nat) (A0_0 : Option Addr) (c0_0 : Nat) (l0_0 : List Int) (a1 : Int) (r : List Int) (w : World) (hr0_0 : Kd.C (Kd.int .i64) w A0_0 l0_0.length l0_0) (hc0_0 : l0_0.length ≤ c0_0) (h : impl_Poset_next.f k l0_0 a1 = some r) :
    Calls Try.prog 74 #[.agg #[.slice A0_0 l0_0.length c0_0], .int .i64 a1] w fun e w' => ∃ v0_ : Value, e = .returned (v0_) ∧ Kd.R (Kd.int .i64) 3 w' w.heap.size (fun _ => True) v0_ r ∧ Below w.heap.size w w' := by
  unfold impl_Poset_next.f at h
  obtain ⟨t, hall, h⟩ := Option.bind_eq_some_iff.1 h
  obtain ⟨l, hit, h⟩ := Option.bind_eq_some_iff.1 h
  split at h
  rotate_left
  · cases h
  rename_i hin
  have HF := Aside0.mk (Option.some.inj h)
  have HALL := Aside0.mk hall
  have HIT := Aside0.mk hit
  have HIN := Aside0.mk hin
  have HR := Aside0.mk hr0_0
  have HC := Aside0.mk hc0_0
  have HL : Aside0 (∀ ad, A0_0 = some ad → ad.block < w.heap.size) := ⟨fun ad e => by
    obtain ⟨ad', e', hc⟩ := Kd.at_int hr0_0 0 (by omega) (by have := hin.2.1; omega)
    rw [e] at e'
    obtain rfl := Option.some.inj e'
    have := World.block_lt_of_cell? w _ hc
    unfold Addr.add at this
    split at this <;> exact this⟩
  have hmf : ∀ (fn : Fn) (first cap : Array Value) (w : World), (Instr.makeFunc fn first cap).run Try.prog w = .ok (.func fn first cap) w := fun _ _ _ _ => rfl
  clear h hall hit hin hr0_0 hc0_0
  go_enter Try.func74, Try.ntmps74
  go_wp2_with (fail)
  go_region_held3 (fun w' => w'.cell? ⟨w.heap.size, 0, none⟩ = some (.slice A0_0 l0_0.length c0_0) ∧ w'.cell? ⟨w.heap.size + 1, 0, none⟩ = some (.int .i64 a1) ∧ Below w.heap.size w w')
    (first | exact next_held_grown (by assumption) hgr hrow_.out | exact next_held_call (by assumption) hb1 | exact next_held_drew (by assumption) | exact next_held_start _ _ _ _ _ | exact next_held_drew (next_held_start _ _ _ _ _) | go_keep)
    (first | (go_at_call 83; (with_reducible refine (impl_Poset_all.calls _ _ l0_0 t _ (Kd.C_below HR.out (by go_split_ands; assumption)) HC.out HALL.out).mono ?_); rintro e w1 ⟨rfl, hb1⟩)
           | (go_at_call 101; (with_reducible refine (impl_items.calls k _ l _ HIT.out).mono ?_); rintro e w1 ⟨v, rfl, ho, hb1⟩; have hlt_ := Aside0.mk (next_held_lt (a := ⟨w.heap.size, 0, none⟩) (b := ⟨w.heap.size + 1, 0, none⟩) (w := w) (by assumption) hb1); have HO := Aside0.mk ho; clear ho)
           | (go_at_call 102; (with_reducible refine (next_any w.heap.size (w.heap.size + 1) v l A0_0 c0_0 l0_0 a1 _ ?_ ?r1 HIN.out ?p1 ?s1 ?c1 ?n1 ?n2 ?n3).mono ?_); (case r1 => (with_reducible repeat (first | apply Kd.R_drew | apply Kd.R_drewN)); exact HO.out); (case p1 => go_split_ands; assumption); (case s1 => go_split_ands; assumption); (case c1 => exact Kd.C_below HR.out (by go_split_ands; assumption)); (case n1 => have := hlt_.out.1; show w.heap.size < _; exact Nat.lt_of_succ_lt this); (case n2 => exact hlt_.out.1); (case n3 => intro ad e_; have := HL.out ad e_; have := hlt_.out.2; omega); rintro e w2 ⟨v2, rfl, ho2, hgr⟩; have hrow_ := Aside0.mk (next_held_row HO.out hlt_.out.1); have HO2 := Aside0.mk ho2; clear ho2))
  all_goals
    go_wp2
    go_ret
    have HO3 := HO2.out
    rw [HF.out] at HO3
    refine ⟨_, rfl, Kd.R_lower HO3 hlt_.out.2, by go_split_ands; assumption⟩
end Go.Proofs.Ytjahclncpgllmaa.F
end

section
namespace Go.Proofs.Ytjahclncpgllmaa.Q
open Go.RowKit Go.Proofs.YtjahclncpgllmaaW.PrintWords Go.Proofs.Ytjahclncpgllmaa.F
set_option linter.unusedVariables false
theorem nextDel_eq {p : List Int} (hp : PO p) {s e : Nat} (hs : s < 2 ^ p.length) (he : e < p.length) : nextDel p (s : Int) (e : Int) = !subB (L p e) s := by
  have hn := hp.small
  unfold nextDel subB
  rw [rdN, hp.val e he, bits_andNotN (lt_pow (L_lt hp he) (by omega)) (lt_pow hs (by omega))]
  rw [Bool.eq_iff_iff, bne_iff_ne, Bool.not_eq_true', beq_eq_false_iff_ne]
  constructor
  · intro h h2; exact h (by rw [h2]; rfl)
  · intro h h2; exact h (by exact_mod_cast h2)
theorem filter_ints (l : List Nat) (f : Int → Bool) (g : Nat → Bool) (h : ∀ e ∈ l, f (e : Int) = g e) : (ints l).filter f = ints (l.filter g) := by
  induction l with
  | nil => rfl
  | cons x l ih =>
    have h1 := h x List.mem_cons_self
    have h2 := ih (fun e he => h e (List.mem_cons_of_mem _ he))
    have e1 : ints (x :: l) = (x : Int) :: ints l := rfl
    rw [e1, List.filter_cons, List.filter_cons, h1, h2]
    split <;> rfl
theorem next_ev {p : List Int} (hp : PO p) {s : Nat} (hs : s < 2 ^ p.length) : Ev (fun k => impl_Poset_next.f k p (s : Int)) (ints (nextN p s)) := by
  have hn := hp.small
  have hal := allN_lt p
  unfold impl_Poset_next.f
  refine Ev.call (all_eq (by omega)) ?_
  rw [bits_andNotN (lt_pow hal (by omega)) (lt_pow hs (by omega))]
  have hit : ndiff (allN p) s < 2 ^ p.length := ndiff_lt hal
  refine Ev.bind (items_ev _ (lt_pow hit (by omega))) ?_
  have hlt : ∀ e ∈ itemsN (ndiff (allN p) s), e < p.length := fun e he => lt_of_bit hit (mem_itemsN.1 he).2
  refine Ev.yes ⟨fun x hx => ?_, hp.pos, ?_⟩ (Ev.ret ?_)
  · obtain ⟨e, he, rfl⟩ := List.mem_map.1 hx
    have := hlt e he
    show 0 ≤ ((e : Nat) : Int) ∧ ((e : Nat) : Int) < _
    omega
  · rw [ints_len]; have := itemsN_len (ndiff (allN p) s); omega
  · rw [nextN_items p hp s]
    refine filter_ints _ _ _ (fun e he => ?_)
    rw [nextDel_eq hp hs (hlt e he), Bool.not_not]
theorem nextN_get {p : List Int} {s i : Nat} (h : i < (nextN p s).length) : (nextN p s).getD i 0 ∈ nextN p s := by
  rw [List.getD_eq_getElem?_getD, List.getElem?_eq_getElem h]; exact List.getElem_mem h
end Go.Proofs.Ytjahclncpgllmaa.Q
end

section
namespace Go.Proofs.Ytjahclncpgllmaa.Q
open Go.RowKit Go.Proofs.YtjahclncpgllmaaW.PrintWords Go.Proofs.Ytjahclncpgllmaa.F
set_option linter.unusedVariables false
theorem idealB_zero (p : List Int) : idealB p 0 = true := by
  rw [idealB_iff]
  intro i _ h
  rw [Nat.zero_testBit] at h; cases h
theorem Wl_next {p : List Int} (hp : PO p) {s e : Nat} (hs : s < 2 ^ p.length) (hid : idealB p s = true) (he : e ∈ nextN p s) :
    s ||| 2 ^ e < 2 ^ p.length ∧ (Wl p 0).getD (s ||| 2 ^ e) 0 = ((ways p (s ||| 2 ^ e) : Nat) : Int) := by
  obtain ⟨_, h1, _, _⟩ := mem_nextN.1 he
  have h2 : s ||| 2 ^ e < 2 ^ p.length := or_lt hs (pow_lt_pow h1)
  refine ⟨h2, ?_⟩
  rw [Wl_get p 0 h2]
  unfold wayAt
  rw [if_pos (Nat.zero_le _), if_pos (idealB_add hp hid he)]
theorem Cl_at {p : List Int} {t : Nat} (h : t < 2 ^ p.length) : (Cl p 0).getD t 0 = ((ways p t : Nat) : Int) := by
  rw [Cl_get p 0 h]; unfold cntAt; rw [if_pos (Nat.zero_le _)]
/-- Ways are added up, in the machine's numbers. -/
def rkF (p : List Int) (s : Nat) (acc : Int) (l : List Nat) : Int := l.foldl (fun a e => wrap64 (a + ((ways p (s ||| 2 ^ e) : Nat) : Int))) acc
/-- What can come next among the elements from i on, below own. -/
def nextTo (p : List Int) (s own i : Nat) : List Nat := (List.range' i (own - i)).filter fun e => !s.testBit e && subB (L p e) s
theorem nextTo_step {p : List Int} {s own i : Nat} (h : i < own) : nextTo p s own i = if !s.testBit i && subB (L p i) s then i :: nextTo p s own (i + 1) else nextTo p s own (i + 1) := by
  unfold nextTo
  rw [show own - i = (own - (i + 1)) + 1 by omega, List.range'_succ, List.filter_cons]
theorem nextTo_end (p : List Int) (s own : Nat) : nextTo p s own own = [] := by unfold nextTo; simp
theorem nextTo_eq {p : List Int} (hn : p.length ≤ 10) {s own : Nat} (h : own ≤ p.length) : (nextN p s).filter (fun e => decide (e < own)) = nextTo p s own 0 := by
  rw [← nextFrom_zero hn]
  unfold nextFrom nextTo
  rw [Nat.sub_zero, Nat.sub_zero, ← List.range_eq_range', ← List.range_eq_range', List.filter_filter]
  have e0 : own + (p.length - own) = p.length := by omega
  have e : List.range p.length = List.range own ++ (List.range (p.length - own)).map (own + ·) := by rw [← List.range_add, e0]
  rw [e, List.filter_append]
  have e2 : ((List.range (p.length - own)).map (own + ·)).filter (fun e => decide (e < own) && (!s.testBit e && subB (L p e) s)) = [] := by
    rw [List.filter_eq_nil_iff]
    intro x hx
    obtain ⟨y, _, rfl⟩ := List.mem_map.1 hx
    rw [decide_eq_false (by omega)]; simp
  rw [e2, List.append_nil]
  apply List.filter_congr
  intro x hx
  rw [List.mem_range] at hx
  rw [decide_eq_true hx]; rfl
/-- The first of some elements at which so many orders are reached, and what is left of the number. -/
def pick (p : List Int) (s : Nat) : List Nat → Nat → Nat × Nat
  | [], r => (0, r)
  | e :: l, r => if r < ways p (s ||| 2 ^ e) then (e, r) else pick p s l (r - ways p (s ||| 2 ^ e))
theorem pick_ok {p : List Int} {s : Nat} : ∀ (l : List Nat) (r : Nat), r < sumL (l.map fun e => ways p (s ||| 2 ^ e)) → (pick p s l r).1 ∈ l ∧ (pick p s l r).2 < ways p (s ||| 2 ^ (pick p s l r).1) := by
  intro l
  induction l with
  | nil => intro r h; simp [sumL] at h
  | cons e l ih =>
    intro r h
    simp only [List.map_cons, sumL] at h
    unfold pick
    split
    · rename_i h1; exact ⟨List.mem_cons_self, h1⟩
    · obtain ⟨h1, h2⟩ := ih (r - ways p (s ||| 2 ^ e)) (by omega)
      exact ⟨List.mem_cons_of_mem _ h1, h2⟩
/-- The order with a rank, from a set on. -/
def linW (p : List Int) : Nat → Nat → Nat → List Nat
  | 0, _, _ => []
  | d + 1, s, r => (pick p s (nextN p s) r).1 :: linW p d (s ||| 2 ^ (pick p s (nextN p s) r).1) (pick p s (nextN p s) r).2
theorem linW_len (p : List Int) : ∀ d s r, (linW p d s r).length = d := by
  intro d
  induction d with
  | zero => intro s r; rfl
  | succ d ih => intro s r; simp only [linW, List.length_cons, ih]
end Go.Proofs.Ytjahclncpgllmaa.Q
end

section
namespace Go.Proofs.Ytjahclncpgllmaa.Q
open Go.RowKit Go.Proofs.YtjahclncpgllmaaW.PrintWords Go.Proofs.Ytjahclncpgllmaa.F
set_option linter.unusedVariables false
theorem with_spec_in {p : List Int} (hp : PO p) {s : Nat} (hs : s < 2 ^ p.length) (acc R : List Int) (ha : acc.length ≤ 10) : ∀ i, i ≤ p.length → ∀ r : Nat, r < sumL ((nextFrom p s i).map fun e => ways p (s ||| 2 ^ e)) →
    Ev (fun k => spec_liWith.l0 k (Cl p 0) (((pick p s (nextFrom p s i) r).2 : Nat) : Int) (acc ++ [(((pick p s (nextFrom p s i) r).1 : Nat) : Int)]) ((s ||| 2 ^ (pick p s (nextFrom p s i) r).1 : Nat) : Int) p) R →
    Ev (fun k => spec_liWith.l1 k (Cl p 0) (r : Int) acc (s : Int) p (p.length : Int) (i : Int) p) R := by
  have hn := hp.small
  refine downTo _ ?_ ?_
  · intro r hr _
    rw [nextFrom_end] at hr
    simp [sumL] at hr
  · intro i hi ih r hr h
    rw [nextFrom_step hi] at hr h
    refine Ev.step (by intro k; simp only [spec_liWith.l1]; rfl) (Ev.yes (by omega) (Ev.yes (by omega) (Ev.yes (by omega) (Ev.call (poIn_eq (by omega)) ?_))))
    have skip : Ev (fun k => spec_liWith.l1 k (Cl p 0) (r : Int) acc (s : Int) p (p.length : Int) ((i + 1 : Nat) : Int) p) R → Ev (fun k => spec_liWith.j2 k (Cl p 0) (r : Int) acc (s : Int) (i : Int) p (p.length : Int) (i : Int) true p) R := fun g => by
      refine Ev.step (by intro k; simp only [spec_liWith.j2]; rfl) (Ev.yes (show true = true from rfl) ?_)
      rw [wid1 (i := i) (n := p.length) hi (by omega)]; exact g
    cases hb : s.testBit i with
    | true =>
      rw [hb] at hr h
      exact Ev.yes rfl (skip (ih r (by simpa using hr) (by simpa using h)))
    | false =>
      rw [hb] at hr h
      refine Ev.no (by simp) ?_
      rw [rdN, hp.val i hi, bits_andNotN (lt_pow (L_lt hp hi) (by omega)) (lt_pow hs (by omega))]
      cases hc : subB (L p i) s with
      | false =>
        rw [hc] at hr h
        have e : ((((ndiff (L p i) s : Nat) : Int) != 0)) = true := by
          rw [bne_iff_ne]
          intro h5
          have h4 : ndiff (L p i) s = 0 := by exact_mod_cast h5
          unfold subB at hc; rw [h4] at hc; simp at hc
        rw [e]
        exact skip (ih r (by simpa using hr) (by simpa using h))
      | true =>
        rw [hc] at hr h
        have h4 : ndiff (L p i) s = 0 := by unfold subB at hc; exact beq_iff_eq.1 hc
        have e : ((((ndiff (L p i) s : Nat) : Int) != 0)) = false := by rw [h4]; rfl
        rw [e]
        have hsi : s ||| 2 ^ i < 2 ^ p.length := or_lt hs (pow_lt_pow hi)
        have hw := ways_le hn (s ||| 2 ^ i)
        refine Ev.step (by intro k; simp only [spec_liWith.j2]; rfl) (Ev.no (by simp) (Ev.yes (by omega) ?_))
        rw [shlN (by omega), bits_orN (lt_pow hs (by omega)) (Nat.pow_lt_pow_right (by decide) (by omega))]
        refine Ev.yes (by omega) (Ev.yes (by rw [Cl_len]; omega) ?_)
        rw [rdN, Cl_at hsi]
        simp only [Bool.not_false, Bool.true_and, if_true, List.map_cons, sumL, pick] at hr h
        by_cases hlt : r < ways p (s ||| 2 ^ i)
        · rw [if_pos hlt] at h
          exact Ev.yes (by omega) (Ev.yes (by omega) h)
        · rw [if_neg hlt] at h
          refine Ev.no (by omega) ?_
          rw [wid1 (i := i) (n := p.length) hi (by omega)]
          have hr2 : r ≤ r := Nat.le_refl _
          have hsum : r - ways p (s ||| 2 ^ i) < sumL ((nextFrom p s (i + 1)).map fun e => ways p (s ||| 2 ^ e)) := by omega
          have ew : wrap64 ((r : Int) - ((ways p (s ||| 2 ^ i) : Nat) : Int)) = ((r - ways p (s ||| 2 ^ i) : Nat) : Int) := by
            have hb2 : sumL ((nextFrom p s (i + 1)).map fun e => ways p (s ||| 2 ^ e)) ≤ 10 * 10000000000 := sumL_le _ _ _ (fun x hx => by obtain ⟨e, _, rfl⟩ := List.mem_map.1 hx; exact ways_le hn _) (by
              rw [List.length_map]; unfold nextFrom
              exact Nat.le_trans (List.length_filter_le _ _) (by rw [List.length_range']; omega))
            rw [wid (by omega) (by omega)]; omega
          rw [ew]
          exact ih _ hsum h
theorem liWith_run {p : List Int} (hp : PO p) : ∀ (d s r : Nat) (acc : List Int), s < 2 ^ p.length → pcard p.length s = acc.length → acc.length + d = p.length → r < ways p s →
    Ev (fun k => spec_liWith.l0 k (Cl p 0) (r : Int) acc (s : Int) p) (acc ++ ints (linW p d s r)) := by
  have hn := hp.small
  intro d
  induction d with
  | zero =>
    intro s r acc hs hc hd hr
    refine Ev.step (by intro k; simp only [spec_liWith.l0]; rfl) (Ev.no (by omega) (Ev.ret ?_))
    simp [linW, ints]
  | succ d ih =>
    intro s r acc hs hc hd hr
    have hall : s ≠ allN p := by
      intro e
      rw [e, pcard_all] at hc; omega
    have hst := ways_step hs hall
    rw [← nextFrom_zero hn] at hst
    have hr' : r < sumL ((nextFrom p s 0).map fun e => ways p (s ||| 2 ^ e)) := by omega
    obtain ⟨h1, h2⟩ := pick_ok _ r hr'
    have h1' : (pick p s (nextFrom p s 0) r).1 ∈ nextN p s := by rw [← nextFrom_zero hn]; exact h1
    obtain ⟨_, m1, m2, m3⟩ := mem_nextN.1 h1'
    refine Ev.step (by intro k; simp only [spec_liWith.l0]; rfl) (Ev.yes (by omega) ?_)
    refine with_spec_in hp hs acc _ (by omega) 0 (Nat.zero_le _) r hr' ?_
    have := ih (s ||| 2 ^ (pick p s (nextFrom p s 0) r).1) (pick p s (nextFrom p s 0) r).2 (acc ++ [(((pick p s (nextFrom p s 0) r).1 : Nat) : Int)]) (or_lt hs (pow_lt_pow m1)) (by rw [pcard_add m1 m2, hc, List.length_append, List.length_singleton]) (by rw [List.length_append, List.length_singleton]; omega) h2
    refine evc this ?_
    rw [List.append_assoc, nextFrom_zero hn]
    rfl
theorem liWith_ev {p : List Int} (hp : PO p) {r : Nat} (hr : r < ways p 0) : Ev (fun k => spec_liWith.f k p (Cl p 0) (r : Int)) (ints (linW p p.length 0 r)) := by
  unfold spec_liWith.f
  have := liWith_run hp p.length 0 r [] (Nat.two_pow_pos _) (by rw [pcard_zero]; rfl) (by simp) hr
  rw [List.nil_append] at this
  exact this
end Go.Proofs.Ytjahclncpgllmaa.Q
end

section
namespace Go.Proofs.Ytjahclncpgllmaa.F
open Go.RowKit Go.Proofs.YtjahclncpgllmaaW.PrintWords Go.Proofs.YtjahclncpgllmaaW.PrintLast Go.Proofs.YtjahclncpgllmaaW.PrintMore
set_option linter.unusedVariables false
set_option linter.unusedSimpArgs false
/-- The four captured variables: the poset, the list of orders, the order under way, the function itself. -/
structure FewA where
  gp : Nat
  go : Nat
  gw : Nat
  gf : Nat
  A0 : Option Addr
  c0 : Nat
  p : List Int
  w : World
def FewA.caps (S : FewA) : Array Value := #[.pointer (some ⟨S.gp, 0, none⟩), .pointer (some ⟨S.go, 0, none⟩), .pointer (some ⟨S.gw, 0, none⟩), .pointer (some ⟨S.gf, 0, none⟩)]
structure FewA.Ok (S : FewA) : Prop where
  C : Kd.C (Kd.int .i64) S.w S.A0 S.p.length S.p
  le : S.p.length ≤ S.c0
  bp : S.w.heap.size ≤ S.gp
  bo : S.w.heap.size ≤ S.go
  bw : S.w.heap.size ≤ S.gw
  bf : S.w.heap.size ≤ S.gf
  po : S.gp ≠ S.go
  pw : S.gp ≠ S.gw
  pf : S.gp ≠ S.gf
  ow : S.go ≠ S.gw
  of_ : S.go ≠ S.gf
  wf : S.gw ≠ S.gf
def FewA.ok (S : FewA) (av : Nat → Prop) (k : Nat) : Prop := k ≠ S.gp ∧ k ≠ S.go ∧ k ≠ S.gw ∧ k ≠ S.gf ∧ ¬ av k
/-- What holds between the calls. -/
structure FewI (S : FewA) (av : Nat → Prop) (vo vw : Value) (o : List (List Int)) (wl : List Int) (W : World) : Prop where
  below : Below S.w.heap.size S.w W
  cp : W.heap[S.gp]? = some (.cells #[.slice S.A0 S.p.length S.c0] 28 (0, 0))
  co : W.heap[S.go]? = some (.cells #[vo] 38 (0, 0))
  cw : W.heap[S.gw]? = some (.cells #[vw] 22 (0, 0))
  cf : W.heap[S.gf]? = some (.cells #[.func (.func 108) #[] S.caps] 84 (0, 0))
  HO : Kd.S (Kd.slice 3 (Kd.int .i64)) 22 W S.w.heap.size (fun k => S.ok av k ∧ some k ≠ vw.ownBlock) vo o
  HW : Kd.R (Kd.int .i64) 3 W S.w.heap.size (S.ok av) vw wl
  avlt : ∀ k, av k → k < W.heap.size
  nav : ¬ av S.gp ∧ ¬ av S.go ∧ ¬ av S.gw ∧ ¬ av S.gf
theorem FewI.step {S : FewA} {av : Nat → Prop} {vo vw : Value} {o : List (List Int)} {wl : List Int} {W W1 : World} (h : FewI S av vo vw o wl W) (hb : Below W.heap.size W W1) : FewI S av vo vw o wl W1 :=
  ⟨below_step h.below hb, blk_below h.cp hb, blk_below h.co hb, blk_below h.cw hb, blk_below h.cf hb, Kd.S_below h.HO hb, Kd.R_below h.HW hb, fun k hk => Nat.lt_of_lt_of_le (h.avlt k hk) hb.size, h.nav⟩
theorem FewI.far {S : FewA} (hS : S.Ok) {av : Nat → Prop} {vo vw : Value} {o : List (List Int)} {wl : List Int} {W : World} (h : FewI S av vo vw o wl W) {k : Nat} (hk : W.heap.size ≤ k) : S.ok av k :=
  ⟨by have := blk_lt h.cp; omega, by have := blk_lt h.co; omega, by have := blk_lt h.cw; omega, by have := blk_lt h.cf; omega, fun ha => by have := h.avlt k ha; omega⟩
def FewKeep (av : Nat → Prop) (W W' : World) : Prop := W.heap.size ≤ W'.heap.size ∧ ∀ k, av k → W'.heap[k]? = W.heap[k]?
theorem FewKeep.refl (av : Nat → Prop) (W : World) : FewKeep av W W := ⟨Nat.le_refl _, fun _ _ => rfl⟩
theorem FewKeep.trans {av : Nat → Prop} {W1 W2 W3 : World} (h : FewKeep av W1 W2) (h' : FewKeep av W2 W3) : FewKeep av W1 W3 := ⟨Nat.le_trans h.1 h'.1, fun k hk => (h'.2 k hk).trans (h.2 k hk)⟩
theorem FewKeep.of_below {av : Nat → Prop} {W W1 : World} (hlt : ∀ k, av k → k < W.heap.size) (hb : Below W.heap.size W W1) : FewKeep av W W1 := ⟨hb.size, fun k hk => hb.block k (hlt k hk)⟩
theorem few_size (w : World) (a : Addr) (v : Value) : (w.setCell a v).heap.size = w.heap.size := by
  rcases a with ⟨b, o, sp⟩
  simp [World.setCell]
/-- A new list of orders is stored. -/
theorem FewI.put_out {S : FewA} (hS : S.Ok) {av : Nat → Prop} {vo vw v1 : Value} {o o' : List (List Int)} {wl : List Int} {W w1 : World} (h : FewI S av vo vw o wl W)
    (hs : Kd.S (Kd.slice 3 (Kd.int .i64)) 22 w1 S.w.heap.size (fun k => S.ok av k ∧ some k ≠ vw.ownBlock) v1 o') (hb : Below S.w.heap.size S.w w1) (hg : W.grownBy w1 vo.ownBlock) :
    FewI S av v1 vw o' wl (w1.setCell ⟨S.go, 0, none⟩ v1) ∧ FewKeep av W (w1.setCell ⟨S.go, 0, none⟩ v1) := by
  have hvo : ∀ k, vo.ownBlock = some k → S.ok av k ∧ some k ≠ vw.ownBlock := (Kd.S_R h.HO).1
  have hne : ∀ k, ¬ S.ok av k → some k ≠ vo.ownBlock := fun k hk e => hk (hvo k e.symm).1
  have hgo : S.w.heap.size ≤ S.go := hS.bo
  have g1 := blk_grown h.cp hg (hne _ (fun h => h.1 rfl))
  have g2 := blk_grown h.co hg (hne _ (fun h => h.2.1 rfl))
  have g3 := blk_grown h.cw hg (hne _ (fun h => h.2.2.1 rfl))
  have g4 := blk_grown h.cf hg (hne _ (fun h => h.2.2.2.1 rfl))
  have hs' := Kd.S_far hs (p := ⟨S.go, 0, none⟩) (fun k hk => hk.1.2.1) v1
  have hw0 := Kd.R_step (Kd.R_tight2 rfl h.HW) (w1 := w1) (fun k ho hk => hg.block k hk (fun e => (hvo k e.symm).2 ho.1))
  have hw' := Kd.R_far (Kd.R_mono (ok' := S.ok av) hw0 (fun k hk => hk.2)) (p := ⟨S.go, 0, none⟩) (fun k hk => hk.2.1) v1
  refine ⟨⟨below_set hb hgo, ?_, one_setCell g2, ?_, ?_, hs', hw', fun k hk => ?_, h.nav⟩, ?_, fun k hk => ?_⟩
  · exact (Below.heap_setCell _ _ _ _ hS.po).trans g1
  · exact (Below.heap_setCell _ _ _ _ (Ne.symm hS.ow)).trans g3
  · exact (Below.heap_setCell _ _ _ _ (Ne.symm hS.of_)).trans g4
  · rw [few_size]; exact Nat.lt_of_lt_of_le (h.avlt k hk) hg.size
  · rw [few_size]; exact hg.size
  · have hkg : k ≠ S.go := fun e => h.nav.2.1 (e ▸ hk)
    exact (Below.heap_setCell _ _ _ _ hkg).trans (hg.block k (h.avlt k hk) (hne k (fun h => h.2.2.2.2 hk)))
theorem FewI.go_kept {S : FewA} {av : Nat → Prop} {vo vw : Value} {o : List (List Int)} {wl : List Int} {W w1 : World} (h : FewI S av vo vw o wl W) (hg : W.grownBy w1 vo.ownBlock) : w1.heap[S.go]? = some (.cells #[vo] 38 (0, 0)) :=
  blk_grown h.co hg (fun e => ((Kd.S_R h.HO).1 _ e.symm).1.2.1 rfl)
theorem FewI.vw_lt {S : FewA} {av : Nat → Prop} {vo vw : Value} {o : List (List Int)} {wl : List Int} {W : World} (h : FewI S av vo vw o wl W) {k : Nat} (hk : W.heap.size ≤ k) : some k ≠ vw.ownBlock := fun e => by
  have := Kd.R_lt h.HW k e.symm; omega
theorem few_new {S : FewA} (hS : S.Ok) {av : Nat → Prop} {vo vw v2 : Value} {o : List (List Int)} {wl l2 : List Int} {W W2 : World} (h : FewI S av vo vw o wl W) (hr : Kd.R (Kd.int .i64) 3 W2 W.heap.size (fun _ => True) v2 l2) :
    ∀ k, some k = v2.ownBlock → (S.ok av k ∧ some k ≠ vw.ownBlock) ∧ some k ≠ vo.ownBlock := fun k hk => by
  have hb := Kd.R_base hr k hk.symm
  refine ⟨⟨h.far hS hb, h.vw_lt hb⟩, fun e => ?_⟩
  have := Kd.S_lt h.HO k e.symm; omega
theorem few_old {S : FewA} {av : Nat → Prop} {vo vw v2 : Value} {o : List (List Int)} {wl l2 : List Int} {W W2 : World} (h : FewI S av vo vw o wl W) (hb : Below W.heap.size W W2) (hr : Kd.R (Kd.int .i64) 3 W2 W.heap.size (fun _ => True) v2 l2) :
    Kd.S (Kd.slice 3 (Kd.int .i64)) 22 W2 S.w.heap.size (fun k => (S.ok av k ∧ some k ≠ vw.ownBlock) ∧ ¬ some k = v2.ownBlock) vo o := by
  refine Kd.S_below (Kd.S_mono (Kd.S_bound h.HO) (fun k hk => ⟨hk.1, fun e => ?_⟩)) hb
  have h1 := Kd.R_base hr k e.symm
  have h2 := hk.2.2.1
  omega
/-- A new order under way is stored. -/
theorem FewI.put_w {S : FewA} (hS : S.Ok) {av : Nat → Prop} {vo vw v1 : Value} {o : List (List Int)} {wl wl' : List Int} {W w1 : World} (h : FewI S av vo vw o wl W)
    (hr : Kd.R (Kd.int .i64) 3 w1 S.w.heap.size (S.ok av) v1 wl') (hb : Below S.w.heap.size S.w w1) (hg : W.grownBy w1 vw.ownBlock) (hat : v1.ownBlock = vw.ownBlock ∨ ∃ b, v1.ownBlock = some b ∧ W.heap.size ≤ b) :
    FewI S av vo v1 o wl' (w1.setCell ⟨S.gw, 0, none⟩ v1) ∧ FewKeep av W (w1.setCell ⟨S.gw, 0, none⟩ v1) := by
  have hvw : ∀ k, vw.ownBlock = some k → S.ok av k := h.HW.1
  have hne : ∀ k, ¬ S.ok av k → some k ≠ vw.ownBlock := fun k hk e => hk (hvw k e.symm)
  have hgw : S.w.heap.size ≤ S.gw := hS.bw
  have g1 := blk_grown h.cp hg (hne _ (fun h => h.1 rfl))
  have g2 := blk_grown h.co hg (hne _ (fun h => h.2.1 rfl))
  have g3 := blk_grown h.cw hg (hne _ (fun h => h.2.2.1 rfl))
  have g4 := blk_grown h.cf hg (hne _ (fun h => h.2.2.2.1 rfl))
  have hs' := Kd.S_far (Kd.S_after h.HO hg hat) (p := ⟨S.gw, 0, none⟩) (fun k hk => hk.1.2.2.1) v1
  have hw' := Kd.R_far hr (p := ⟨S.gw, 0, none⟩) (fun k hk => hk.2.2.1) v1
  refine ⟨⟨below_set hb hgw, ?_, ?_, one_setCell g3, ?_, hs', hw', fun k hk => ?_, h.nav⟩, ?_, fun k hk => ?_⟩
  · exact (Below.heap_setCell _ _ _ _ hS.pw).trans g1
  · exact (Below.heap_setCell _ _ _ _ hS.ow).trans g2
  · exact (Below.heap_setCell _ _ _ _ (Ne.symm hS.wf)).trans g4
  · rw [few_size]; exact Nat.lt_of_lt_of_le (h.avlt k hk) hg.size
  · rw [few_size]; exact hg.size
  · have hkg : k ≠ S.gw := fun e => h.nav.2.2.1 (e ▸ hk)
    exact (Below.heap_setCell _ _ _ _ hkg).trans (hg.block k (h.avlt k hk) (hne k (fun h => h.2.2.2.2 hk)))
theorem FewI.gw_kept {S : FewA} {av : Nat → Prop} {vo vw : Value} {o : List (List Int)} {wl : List Int} {W w1 : World} (h : FewI S av vo vw o wl W) (hg : W.grownBy w1 vw.ownBlock) : w1.heap[S.gw]? = some (.cells #[vw] 22 (0, 0)) :=
  blk_grown h.cw hg (fun e => (h.HW.1 _ e.symm).2.2.1 rfl)
theorem FewI.gf_kept {S : FewA} {av : Nat → Prop} {vo vw : Value} {o : List (List Int)} {wl : List Int} {W w1 : World} (h : FewI S av vo vw o wl W) (hg : W.grownBy w1 vw.ownBlock) : w1.heap[S.gf]? = some (.cells #[.func (.func 108) #[] S.caps] 84 (0, 0)) :=
  blk_grown h.cf hg (fun e => (h.HW.1 _ e.symm).2.2.2.1 rfl)
def fewAv (av : Nat → Prop) (v : Value) (k : Nat) : Prop := av k ∨ some k = v.ownBlock
/-- A fresh row is to be left alone too. -/
theorem FewI.with_row {S : FewA} {av : Nat → Prop} {vo vw vl : Value} {o : List (List Int)} {wl l : List Int} {W W2 : World} (h : FewI S av vo vw o wl W) (hb : Below W.heap.size W W2) (hr : Kd.R (Kd.int .i64) 3 W2 W.heap.size (fun _ => True) vl l) : FewI S (fewAv av vl) vo vw o wl W2 := by
  have h2 := h.step hb
  have hv : ∀ k, some k = vl.ownBlock → W.heap.size ≤ k := fun k e => Kd.R_base hr k e.symm
  refine ⟨h2.below, h2.cp, h2.co, h2.cw, h2.cf, ?_, ?_, ?_, ?_⟩
  · refine Kd.S_below (Kd.S_mono (Kd.S_bound h.HO) (fun k hk => ⟨⟨hk.1.1.1, hk.1.1.2.1, hk.1.1.2.2.1, hk.1.1.2.2.2.1, fun hx => ?_⟩, hk.1.2⟩)) hb
    rcases hx with hx | hx
    · exact hk.1.1.2.2.2.2 hx
    · have := hv k hx; have := hk.2.2.1; omega
  · refine Kd.R_below (Kd.R_mono (Kd.R_bound h.HW) (fun k hk => ⟨hk.1.1, hk.1.2.1, hk.1.2.2.1, hk.1.2.2.2.1, fun hx => ?_⟩)) hb
    rcases hx with hx | hx
    · exact hk.1.2.2.2.2 hx
    · have := hv k hx; have := hk.2.2.1; omega
  · intro k hk
    rcases hk with hk | hk
    · exact h2.avlt k hk
    · exact Kd.R_lt hr k hk.symm
  · have l1 := blk_lt h.cp
    have l2 := blk_lt h.co
    have l3 := blk_lt h.cw
    have l4 := blk_lt h.cf
    refine ⟨?_, ?_, ?_, ?_⟩ <;> rintro (hx | hx)
    · exact h.nav.1 hx
    · have := hv _ hx; omega
    · exact h.nav.2.1 hx
    · have := hv _ hx; omega
    · exact h.nav.2.2.1 hx
    · have := hv _ hx; omega
    · exact h.nav.2.2.2 hx
    · have := hv _ hx; omega
/-- .. and forgotten. -/
theorem FewI.forget {S : FewA} {av : Nat → Prop} {vo vw vl : Value} {o : List (List Int)} {wl : List Int} {W : World} (h : FewI S (fewAv av vl) vo vw o wl W) : FewI S av vo vw o wl W :=
  ⟨h.below, h.cp, h.co, h.cw, h.cf, Kd.S_mono h.HO (fun k hk => ⟨⟨hk.1.1, hk.1.2.1, hk.1.2.2.1, hk.1.2.2.2.1, fun hx => hk.1.2.2.2.2 (.inl hx)⟩, hk.2⟩), Kd.R_mono h.HW (fun k hk => ⟨hk.1, hk.2.1, hk.2.2.1, hk.2.2.2.1, fun hx => hk.2.2.2.2 (.inl hx)⟩), fun k hk => h.avlt k (.inl hk), fun hx => h.nav.1 (.inl hx), fun hx => h.nav.2.1 (.inl hx), fun hx => h.nav.2.2.1 (.inl hx), fun hx => h.nav.2.2.2 (.inl hx)⟩
theorem FewKeep.forget {av : Nat → Prop} {vl : Value} {W W1 : World} (h : FewKeep (fewAv av vl) W W1) : FewKeep av W W1 := ⟨h.1, fun k hk => h.2 k (.inl hk)⟩
theorem few_cell {av : Nat → Prop} {l : List Int} {W W1 : World} {b g c : Nat} (hr : Kd.R (Kd.int .i64) 3 W b (fun _ => True) (.slice (some ⟨g, 0, none⟩) l.length c) l) (hk : FewKeep (fewAv av (.slice (some ⟨g, 0, none⟩) l.length c)) W W1) (i : Nat) (hi : i < l.length) :
    W1.cell? ⟨g, i, none⟩ = some (.int .i64 (rd l (i : Int))) := by
  have h1 := Kd.R_move (Kd.R_tight rfl hr) (w1 := W1) (fun k hk' => hk.2 k (.inr hk'))
  have h2 := (Kd.R_cell (0 : Int) h1 (i : Int) (by omega) (by omega)).1
  rwa [Int.toNat_natCast] at h2
theorem few_rd {l : List Int} {i : Nat} {e : Int} {m : List Int} (h : l.drop i = e :: m) : i < l.length ∧ rd l (i : Int) = e ∧ l.drop (i + 1) = m := by
  have hi : i < l.length := by
    rcases Nat.lt_or_ge i l.length with h' | h'
    · exact h'
    · rw [List.drop_eq_nil_of_le h'] at h; cases h
  rw [List.drop_eq_getElem_cons hi] at h
  injection h with h1 h2
  refine ⟨hi, ?_, h2⟩
  unfold rd
  rw [Int.toNat_natCast, ← h1]
  simp [hi]
def few_row (g : Int → List Int → Option (List (List Int))) (s : Int) (w : List Int) : List Int → Option (List (List Int))
  | [] => some []
  | e :: l => if 0 ≤ e ∧ w.length ≤ 1000 then (g (Go.bits .or .i64 s (shl .i64 1 e)) (w ++ [e])).bind fun o => (few_row g s w l).bind fun o' => some (o ++ o') else none
def few_put (F : Nat) (p : List Int) : Nat → Int → List Int → Option (List (List Int))
  | 0, _, _ => none
  | d + 1, s, w => (impl_Poset_all.f p).bind fun t => if s = t then (if w.length ≤ 1000 then some [w] else none) else (impl_Poset_next.f F p s).bind fun l => if l.length ≤ 1000 then few_row (few_put F p d) s w l else none
theorem few_shl (e : Int) : shl .i64 1 e = IntKind.i64.wrap (2 ^ min e.toNat 64) := by
  unfold shl
  rw [Int.one_mul]
  rfl
theorem few_w64 (n : Nat) (h : n ≤ 1001) : wrap64 (n : Int) = (n : Int) := by
  unfold wrap64
  omega
theorem few_empty {X : World} {base n e sz : Nat} (hn : base ≤ n) (hx : X.heap[n]? = some (.cells #[] e (0, 0))) : X.ownsRow base e sz (.slice (some ⟨n, 0, none⟩) 0 0) 0 [] :=
  ⟨by simp, .inr ⟨n, 0, #[], rfl, hn, hx, by omega, by omega, by simp, by simp⟩⟩
theorem few_emptyR {α : Type} (d : Kd α) {X : World} {base n e : Nat} {ok : Nat → Prop} (hn : base ≤ n) (hx : X.heap[n]? = some (.cells #[] e (0, 0))) (hok : ok n) : d.R e X base ok (.slice (some ⟨n, 0, none⟩) 0 0) ([] : List α) :=
  ⟨fun k hk => by
    have : n = k := by simpa [Value.ownBlock] using hk
    exact this ▸ hok, [], few_empty hn hx, Reps.none _ _⟩
/-- The world in which the function is made. -/
def fewWorld (w2 : World) (c : Array Value) : World :=
  ((((w2.alloc (.cells #[] 22)).alloc (.cells #[] 3)).alloc (.cells #[.slice (some ⟨w2.heap.size, 0, none⟩) 0 0] 38)).alloc (.cells #[.slice (some ⟨w2.heap.size + 1, 0, none⟩) 0 0] 22)).alloc (.cells #[.func (.func 108) #[] c] 84)
theorem few_start {w w2 : World} {A : Option Addr} {c : Nat} {p : List Int} (hC : Kd.C (Kd.int .i64) w A p.length p) (hle : p.length ≤ c) (hb : Below w.heap.size w w2) (hp : w2.heap[w.heap.size]? = some (.cells #[.slice A p.length c] 28 (0, 0))) :
    ∃ S : FewA, S.Ok ∧ S.p = p ∧ S.w = w ∧ S.gp = w.heap.size ∧ S.go = w2.heap.size + 1 + 1 ∧ S.gw = w2.heap.size + 1 + 1 + 1 ∧ S.gf = w2.heap.size + 1 + 1 + 1 + 1 ∧
      FewI S (fun _ => False) (.slice (some ⟨w2.heap.size, 0, none⟩) 0 0) (.slice (some ⟨w2.heap.size + 1, 0, none⟩) 0 0) [] [] (fewWorld w2 S.caps) := by
  have hlt := blk_lt hp
  have hsz := hb.size
  refine ⟨⟨w.heap.size, w2.heap.size + 1 + 1, w2.heap.size + 1 + 1 + 1, w2.heap.size + 1 + 1 + 1 + 1, A, c, p, w⟩, ⟨hC, hle, Nat.le_refl _, by simp; omega, by simp; omega, by simp; omega, by simp; omega, by simp; omega, by simp; omega, by simp, by simp, by simp⟩, rfl, rfl, rfl, rfl, rfl, rfl, ?_⟩
  unfold FewA.caps fewWorld
  have k1 : ∀ a : Obj, (w2.alloc a).heap[w2.heap.size]? = some a := fun a => blk_new w2 a
  have k2 : ∀ a b : Obj, ((w2.alloc a).alloc b).heap[w2.heap.size + 1]? = some b := fun a b => by simpa using blk_new (w2.alloc a) b
  have k3 : ∀ a b c : Obj, (((w2.alloc a).alloc b).alloc c).heap[w2.heap.size + 1 + 1]? = some c := fun a b c => by simpa using blk_new ((w2.alloc a).alloc b) c
  have k4 : ∀ a b c d : Obj, ((((w2.alloc a).alloc b).alloc c).alloc d).heap[w2.heap.size + 1 + 1 + 1]? = some d := fun a b c d => by simpa using blk_new (((w2.alloc a).alloc b).alloc c) d
  have k5 : ∀ a b c d e : Obj, (((((w2.alloc a).alloc b).alloc c).alloc d).alloc e).heap[w2.heap.size + 1 + 1 + 1 + 1]? = some e := fun a b c d e => by simpa using blk_new ((((w2.alloc a).alloc b).alloc c).alloc d) e
  refine ⟨?_, ?_, ?_, ?_, ?_, ?_, ?_, fun k hk => hk.elim, ⟨id, id, id, id⟩⟩
  · exact below_alloc (below_alloc (below_alloc (below_alloc (below_alloc hb _) _) _) _) _
  · exact (blk_alloc (blk_alloc (blk_alloc (blk_alloc (blk_alloc hp _) _) _) _) _)
  · exact (blk_alloc (blk_alloc (k3 _ _ _) _) _)
  · exact (blk_alloc (k4 _ _ _ _) _)
  · exact k5 _ _ _ _ _
  · refine ⟨fun _ => 0, few_emptyR _ hsz ((blk_alloc (blk_alloc (blk_alloc (blk_alloc (k1 _) _) _) _) _)) ⟨⟨?_, ?_, ?_, ?_, id⟩, ?_⟩⟩
    · show w2.heap.size ≠ w.heap.size; omega
    · show w2.heap.size ≠ w2.heap.size + 1 + 1; omega
    · show w2.heap.size ≠ w2.heap.size + 1 + 1 + 1; omega
    · show w2.heap.size ≠ w2.heap.size + 1 + 1 + 1 + 1; omega
    · intro e
      simp [Value.ownBlock] at e
  · refine few_emptyR _ (Nat.le_succ_of_le hsz) ((blk_alloc (blk_alloc (blk_alloc (k2 _ _) _) _) _)) ⟨?_, ?_, ?_, ?_, id⟩
    · show w2.heap.size + 1 ≠ w.heap.size; omega
    · show w2.heap.size + 1 ≠ w2.heap.size + 1 + 1; omega
    · show w2.heap.size + 1 ≠ w2.heap.size + 1 + 1 + 1; omega
    · show w2.heap.size + 1 ≠ w2.heap.size + 1 + 1 + 1 + 1; omega
set_option maxHeartbeats 8000000 in
set_option maxRecDepth 100000 in
theorem few_all {S : FewA} (hS : S.Ok) {av : Nat → Prop} {vo vw : Value} {o : List (List Int)} {wl : List Int} {W : World} (h : FewI S av vo vw o wl W) (s : Int) (hal : impl_Poset_all.f S.p = some s) (hlen : wl.length ≤ 1000) (hol : (o.length + 1) * 24 ≤ 140737488355328) :
    Calls Try.prog 108 #[.int .i64 s, .pointer (some ⟨S.gp, 0, none⟩), .pointer (some ⟨S.go, 0, none⟩), .pointer (some ⟨S.gw, 0, none⟩), .pointer (some ⟨S.gf, 0, none⟩)] W fun e W' => e = .returned (.tuple #[]) ∧ ∃ vo', FewI S av vo' vw (o ++ [wl]) wl W' ∧ FewKeep av W W' := by
  have hu28 := Try.underlying28
  obtain ⟨Aw, cw, rfl, hlw, hCw⟩ := Kd.R_reads h.HW
  have hcp : W.cell? ⟨S.gp, 0, none⟩ = some (.slice S.A0 S.p.length S.c0) := (blk_cell h.cp 0).trans rfl
  have HALL := Aside0.mk (impl_Poset_all.calls S.A0 S.c0 S.p s W (Kd.C_below hS.C h.below) hS.le hal)
  have hco := blk_cell h.co 0
  have hcw := blk_cell h.cw 0
  have hfo := blk_frozen h.co 0
  have HI := Aside0.mk h
  have HLW := Aside0.mk hlw
  have HCW := Aside0.mk hCw
  have HL := Aside0.mk hlen
  have HOL := Aside0.mk hol
  clear h hlw hCw hlen hol hal
  go_enter Try.func108, Try.ntmps108
  go_wp2_with (go_at_call 83; (with_reducible refine HALL.out.mono ?_); rintro e W1 ⟨rfl, hb1⟩; have HI1 := Aside0.mk (HI.out.step hb1); have hco1 : W1.cell? ⟨S.go, 0, none⟩ = some vo := (blk_cell HI1.out.co 0).trans rfl; have hcw1 : W1.cell? ⟨S.gw, 0, none⟩ = some (.slice Aw wl.length cw) := (blk_cell HI1.out.cw 0).trans rfl;  have HCW1 := Aside0.mk (Kd.C_below HCW.out hb1); have HB1 := Aside0.mk hb1; clear hb1)
  refine wp_region_any (by kernel_rfl) ?_
  change wpAny _ _ _ _ _ _ _ (World.drew _)
  refine wpAny_ready (rs := [0, 1]) (by kernel_rfl) (by simp) ?_
  refine AllReady.cons rfl (fun K hK => ?_) ?_
  · -- 0
    go_simp
    refine hK _ _ ?_
    clear hK K
    refine wpAny_ready (rs := [1]) (by kernel_rfl) (by simp) ?_
    refine AllReady.cons rfl (fun K hK => ?_) ?_
    · -- 1
      go_simp
      refine hK _ _ ?_
      clear hK K
      refine wpAny_ready (rs := [2]) (by kernel_rfl) (by simp) ?_
      refine AllReady.cons rfl (fun K hK => ?_) ?_
      · -- 2
        go_simp
        go_at_call 94
        (with_reducible refine (slices_Clone_int_int.calls Aw cw wl wl _ (by (with_reducible repeat (first | apply Kd.C_drewN | apply Kd.C_drew)); exact HCW1.out) HLW.out (by unfold slices_Clone_int_int.f; rw [if_pos (by have := HL.out; omega)])).mono ?_)
        rintro e W2 ⟨v2, rfl, hr2, hb2⟩
        obtain ⟨A2, c2, rfl⟩ := Kd.R_slice hr2
        have HB2 : Aside0 (Below W1.heap.size W1 W2) := ⟨(below_drew (Below.refl W1.heap.size W1)).trans hb2⟩
        have HR2 : Aside0 (Kd.R (Kd.int .i64) 3 W2 W1.heap.size (fun _ => True) (.slice A2 wl.length c2) wl) := ⟨hr2⟩
        clear hr2 hb2
        have HI2 := Aside0.mk (HI1.out.step HB2.out)
        have hco2 : W2.cell? ⟨S.go, 0, none⟩ = some vo := (blk_cell HI2.out.co 0).trans rfl
        show K _ _
        refine hK _ _ ?_
        clear hK K
        refine wpAny_ready (rs := [3]) (by kernel_rfl) (by simp) ?_
        refine AllReady.cons rfl (fun K hK => ?_) ?_
        · -- 3
          go_simp
          have hco3 : (W2.alloc (.cells #[.slice A2 wl.length c2] 22)).cell? ⟨S.go, 0, none⟩ = some vo := (blk_cell (blk_alloc HI2.out.co _) 0).trans rfl
          refine hK _ _ ?_
          clear hK K
          refine wpAny_ready (rs := [4]) (by kernel_rfl) (by simp) ?_
          refine AllReady.cons rfl (fun K hK => ?_) ?_
          · -- 4
            refine Kd.S_append_step (Kd.slice 3 (Kd.int .i64)) (w0 := S.w) (W := W2) S.w.heap.size (by rfl) (.tmp 12) (.tmp 15) 38 22 (.slice none 0 0) 24 rfl Try.underlying38 info22 rfl (by decide) (by omega) vo o wl [.slice A2 wl.length c2] (fun k => S.ok av k ∧ some k ≠ (Value.slice Aw wl.length cw).ownBlock) (fun k => some k = (Value.slice A2 wl.length c2).ownBlock) rfl rfl ?_ (few_new hS HI1.out HR2.out) (fun k hk => ⟨HI2.out.far hS hk, HI2.out.vw_lt hk⟩) (few_old HI1.out HB2.out HR2.out) HI2.out.below HI2.out.below.size HOL.out ?_
            · exact Kd.M_row (Kd.R_tight rfl (Kd.R_lower HR2.out HI1.out.below.size))
            intro v1 w1 hs1 hb1_ hg1 hat1
            obtain ⟨A1, n1, c1, rfl⟩ : ∃ A n c, v1 = .slice A n c := by obtain ⟨A, c, e⟩ := Kd.S_slice hs1; exact ⟨A, _, c, e⟩
            have HP := Aside0.mk (HI2.out.put_out hS hs1 hb1_ hg1)
            have hco4 : w1.cell? ⟨S.go, 0, none⟩ = some vo := (blk_cell (HI2.out.go_kept hg1) 0).trans rfl
            have hfo4 := blk_frozen (HI2.out.go_kept hg1) 0
            clear hs1 hb1_ hg1 hat1
            show K (Act.put _ (some 16) _) w1
            refine hK _ _ ?_
            clear hK K
            refine wpAny_ready (rs := [5]) (by kernel_rfl) (by simp) ?_
            refine AllReady.cons rfl (fun K hK => ?_) ?_
            · -- 5
              go_simp
              refine hK _ _ ?_
              clear hK K
              refine wpAny_done (by kernel_rfl) ?_ _
              go_wp2
              exact bodyPost_ret (v := .tuple #[]) (by simp [results, Try.results108, go_sem]) rfl ⟨rfl, _, HP.out.1, (FewKeep.of_below HI.out.avlt HB1.out).trans ((FewKeep.of_below HI1.out.avlt HB2.out).trans HP.out.2)⟩
            exact AllReady.nil
          exact AllReady.nil
        exact AllReady.nil
      exact AllReady.nil
    exact AllReady.nil
  refine AllReady.cons rfl (fun K hK => ?_) ?_
  · -- 1
    go_simp
    refine hK _ _ ?_
    clear hK K
    refine wpAny_ready (rs := [0, 2]) (by kernel_rfl) (by simp) ?_
    refine AllReady.cons rfl (fun K hK => ?_) ?_
    · -- 0
      go_simp
      refine hK _ _ ?_
      clear hK K
      refine wpAny_ready (rs := [2]) (by kernel_rfl) (by simp) ?_
      refine AllReady.cons rfl (fun K hK => ?_) ?_
      · -- 2
        go_simp
        go_at_call 94
        (with_reducible refine (slices_Clone_int_int.calls Aw cw wl wl _ (by (with_reducible repeat (first | apply Kd.C_drewN | apply Kd.C_drew)); exact HCW1.out) HLW.out (by unfold slices_Clone_int_int.f; rw [if_pos (by have := HL.out; omega)])).mono ?_)
        rintro e W2 ⟨v2, rfl, hr2, hb2⟩
        obtain ⟨A2, c2, rfl⟩ := Kd.R_slice hr2
        have HB2 : Aside0 (Below W1.heap.size W1 W2) := ⟨(below_drew (Below.refl W1.heap.size W1)).trans hb2⟩
        have HR2 : Aside0 (Kd.R (Kd.int .i64) 3 W2 W1.heap.size (fun _ => True) (.slice A2 wl.length c2) wl) := ⟨hr2⟩
        clear hr2 hb2
        have HI2 := Aside0.mk (HI1.out.step HB2.out)
        have hco2 : W2.cell? ⟨S.go, 0, none⟩ = some vo := (blk_cell HI2.out.co 0).trans rfl
        show K _ _
        refine hK _ _ ?_
        clear hK K
        refine wpAny_ready (rs := [3]) (by kernel_rfl) (by simp) ?_
        refine AllReady.cons rfl (fun K hK => ?_) ?_
        · -- 3
          go_simp
          have hco3 : (W2.alloc (.cells #[.slice A2 wl.length c2] 22)).cell? ⟨S.go, 0, none⟩ = some vo := (blk_cell (blk_alloc HI2.out.co _) 0).trans rfl
          refine hK _ _ ?_
          clear hK K
          refine wpAny_ready (rs := [4]) (by kernel_rfl) (by simp) ?_
          refine AllReady.cons rfl (fun K hK => ?_) ?_
          · -- 4
            refine Kd.S_append_step (Kd.slice 3 (Kd.int .i64)) (w0 := S.w) (W := W2) S.w.heap.size (by rfl) (.tmp 12) (.tmp 15) 38 22 (.slice none 0 0) 24 rfl Try.underlying38 info22 rfl (by decide) (by omega) vo o wl [.slice A2 wl.length c2] (fun k => S.ok av k ∧ some k ≠ (Value.slice Aw wl.length cw).ownBlock) (fun k => some k = (Value.slice A2 wl.length c2).ownBlock) rfl rfl ?_ (few_new hS HI1.out HR2.out) (fun k hk => ⟨HI2.out.far hS hk, HI2.out.vw_lt hk⟩) (few_old HI1.out HB2.out HR2.out) HI2.out.below HI2.out.below.size HOL.out ?_
            · exact Kd.M_row (Kd.R_tight rfl (Kd.R_lower HR2.out HI1.out.below.size))
            intro v1 w1 hs1 hb1_ hg1 hat1
            obtain ⟨A1, n1, c1, rfl⟩ : ∃ A n c, v1 = .slice A n c := by obtain ⟨A, c, e⟩ := Kd.S_slice hs1; exact ⟨A, _, c, e⟩
            have HP := Aside0.mk (HI2.out.put_out hS hs1 hb1_ hg1)
            have hco4 : w1.cell? ⟨S.go, 0, none⟩ = some vo := (blk_cell (HI2.out.go_kept hg1) 0).trans rfl
            have hfo4 := blk_frozen (HI2.out.go_kept hg1) 0
            clear hs1 hb1_ hg1 hat1
            show K (Act.put _ (some 16) _) w1
            refine hK _ _ ?_
            clear hK K
            refine wpAny_ready (rs := [5]) (by kernel_rfl) (by simp) ?_
            refine AllReady.cons rfl (fun K hK => ?_) ?_
            · -- 5
              go_simp
              refine hK _ _ ?_
              clear hK K
              refine wpAny_done (by kernel_rfl) ?_ _
              go_wp2
              exact bodyPost_ret (v := .tuple #[]) (by simp [results, Try.results108, go_sem]) rfl ⟨rfl, _, HP.out.1, (FewKeep.of_below HI.out.avlt HB1.out).trans ((FewKeep.of_below HI1.out.avlt HB2.out).trans HP.out.2)⟩
            exact AllReady.nil
          exact AllReady.nil
        exact AllReady.nil
      exact AllReady.nil
    refine AllReady.cons rfl (fun K hK => ?_) ?_
    · -- 2
      go_simp
      go_at_call 94
      (with_reducible refine (slices_Clone_int_int.calls Aw cw wl wl _ (by (with_reducible repeat (first | apply Kd.C_drewN | apply Kd.C_drew)); exact HCW1.out) HLW.out (by unfold slices_Clone_int_int.f; rw [if_pos (by have := HL.out; omega)])).mono ?_)
      rintro e W2 ⟨v2, rfl, hr2, hb2⟩
      obtain ⟨A2, c2, rfl⟩ := Kd.R_slice hr2
      have HB2 : Aside0 (Below W1.heap.size W1 W2) := ⟨(below_drew (Below.refl W1.heap.size W1)).trans hb2⟩
      have HR2 : Aside0 (Kd.R (Kd.int .i64) 3 W2 W1.heap.size (fun _ => True) (.slice A2 wl.length c2) wl) := ⟨hr2⟩
      clear hr2 hb2
      have HI2 := Aside0.mk (HI1.out.step HB2.out)
      have hco2 : W2.cell? ⟨S.go, 0, none⟩ = some vo := (blk_cell HI2.out.co 0).trans rfl
      show K _ _
      refine hK _ _ ?_
      clear hK K
      refine wpAny_ready (rs := [0, 3]) (by kernel_rfl) (by simp) ?_
      refine AllReady.cons rfl (fun K hK => ?_) ?_
      · -- 0
        go_simp
        refine hK _ _ ?_
        clear hK K
        refine wpAny_ready (rs := [3]) (by kernel_rfl) (by simp) ?_
        refine AllReady.cons rfl (fun K hK => ?_) ?_
        · -- 3
          go_simp
          have hco3 : (W2.alloc (.cells #[.slice A2 wl.length c2] 22)).cell? ⟨S.go, 0, none⟩ = some vo := (blk_cell (blk_alloc HI2.out.co _) 0).trans rfl
          refine hK _ _ ?_
          clear hK K
          refine wpAny_ready (rs := [4]) (by kernel_rfl) (by simp) ?_
          refine AllReady.cons rfl (fun K hK => ?_) ?_
          · -- 4
            refine Kd.S_append_step (Kd.slice 3 (Kd.int .i64)) (w0 := S.w) (W := W2) S.w.heap.size (by rfl) (.tmp 12) (.tmp 15) 38 22 (.slice none 0 0) 24 rfl Try.underlying38 info22 rfl (by decide) (by omega) vo o wl [.slice A2 wl.length c2] (fun k => S.ok av k ∧ some k ≠ (Value.slice Aw wl.length cw).ownBlock) (fun k => some k = (Value.slice A2 wl.length c2).ownBlock) rfl rfl ?_ (few_new hS HI1.out HR2.out) (fun k hk => ⟨HI2.out.far hS hk, HI2.out.vw_lt hk⟩) (few_old HI1.out HB2.out HR2.out) HI2.out.below HI2.out.below.size HOL.out ?_
            · exact Kd.M_row (Kd.R_tight rfl (Kd.R_lower HR2.out HI1.out.below.size))
            intro v1 w1 hs1 hb1_ hg1 hat1
            obtain ⟨A1, n1, c1, rfl⟩ : ∃ A n c, v1 = .slice A n c := by obtain ⟨A, c, e⟩ := Kd.S_slice hs1; exact ⟨A, _, c, e⟩
            have HP := Aside0.mk (HI2.out.put_out hS hs1 hb1_ hg1)
            have hco4 : w1.cell? ⟨S.go, 0, none⟩ = some vo := (blk_cell (HI2.out.go_kept hg1) 0).trans rfl
            have hfo4 := blk_frozen (HI2.out.go_kept hg1) 0
            clear hs1 hb1_ hg1 hat1
            show K (Act.put _ (some 16) _) w1
            refine hK _ _ ?_
            clear hK K
            refine wpAny_ready (rs := [5]) (by kernel_rfl) (by simp) ?_
            refine AllReady.cons rfl (fun K hK => ?_) ?_
            · -- 5
              go_simp
              refine hK _ _ ?_
              clear hK K
              refine wpAny_done (by kernel_rfl) ?_ _
              go_wp2
              exact bodyPost_ret (v := .tuple #[]) (by simp [results, Try.results108, go_sem]) rfl ⟨rfl, _, HP.out.1, (FewKeep.of_below HI.out.avlt HB1.out).trans ((FewKeep.of_below HI1.out.avlt HB2.out).trans HP.out.2)⟩
            exact AllReady.nil
          exact AllReady.nil
        exact AllReady.nil
      refine AllReady.cons rfl (fun K hK => ?_) ?_
      · -- 3
        go_simp
        have hco3 : (W2.alloc (.cells #[.slice A2 wl.length c2] 22)).cell? ⟨S.go, 0, none⟩ = some vo := (blk_cell (blk_alloc HI2.out.co _) 0).trans rfl
        refine hK _ _ ?_
        clear hK K
        refine wpAny_ready (rs := [0]) (by kernel_rfl) (by simp) ?_
        refine AllReady.cons rfl (fun K hK => ?_) ?_
        · -- 0
          go_simp
          refine hK _ _ ?_
          clear hK K
          refine wpAny_ready (rs := [4]) (by kernel_rfl) (by simp) ?_
          refine AllReady.cons rfl (fun K hK => ?_) ?_
          · -- 4
            refine Kd.S_append_step (Kd.slice 3 (Kd.int .i64)) (w0 := S.w) (W := W2) S.w.heap.size (by rfl) (.tmp 12) (.tmp 15) 38 22 (.slice none 0 0) 24 rfl Try.underlying38 info22 rfl (by decide) (by omega) vo o wl [.slice A2 wl.length c2] (fun k => S.ok av k ∧ some k ≠ (Value.slice Aw wl.length cw).ownBlock) (fun k => some k = (Value.slice A2 wl.length c2).ownBlock) rfl rfl ?_ (few_new hS HI1.out HR2.out) (fun k hk => ⟨HI2.out.far hS hk, HI2.out.vw_lt hk⟩) (few_old HI1.out HB2.out HR2.out) HI2.out.below HI2.out.below.size HOL.out ?_
            · exact Kd.M_row (Kd.R_tight rfl (Kd.R_lower HR2.out HI1.out.below.size))
            intro v1 w1 hs1 hb1_ hg1 hat1
            obtain ⟨A1, n1, c1, rfl⟩ : ∃ A n c, v1 = .slice A n c := by obtain ⟨A, c, e⟩ := Kd.S_slice hs1; exact ⟨A, _, c, e⟩
            have HP := Aside0.mk (HI2.out.put_out hS hs1 hb1_ hg1)
            have hco4 : w1.cell? ⟨S.go, 0, none⟩ = some vo := (blk_cell (HI2.out.go_kept hg1) 0).trans rfl
            have hfo4 := blk_frozen (HI2.out.go_kept hg1) 0
            clear hs1 hb1_ hg1 hat1
            show K (Act.put _ (some 16) _) w1
            refine hK _ _ ?_
            clear hK K
            refine wpAny_ready (rs := [5]) (by kernel_rfl) (by simp) ?_
            refine AllReady.cons rfl (fun K hK => ?_) ?_
            · -- 5
              go_simp
              refine hK _ _ ?_
              clear hK K
              refine wpAny_done (by kernel_rfl) ?_ _
              go_wp2
              exact bodyPost_ret (v := .tuple #[]) (by simp [results, Try.results108, go_sem]) rfl ⟨rfl, _, HP.out.1, (FewKeep.of_below HI.out.avlt HB1.out).trans ((FewKeep.of_below HI1.out.avlt HB2.out).trans HP.out.2)⟩
            exact AllReady.nil
          exact AllReady.nil
        exact AllReady.nil
      exact AllReady.nil
    exact AllReady.nil
  exact AllReady.nil
set_option maxHeartbeats 8000000 in
set_option maxRecDepth 100000 in
theorem few_step {S : FewA} (hS : S.Ok) (F d : Nat) (t s : Int) (l wl : List Int) (out : List (List Int)) (hal : impl_Poset_all.f S.p = some t) (hst : ¬ s = t) (hnx : impl_Poset_next.f F S.p s = some l) (hl : l.length ≤ 1000) (hrow : few_row (few_put F S.p d) s wl l = some out)
    (ih : ∀ (s : Int) (wl : List Int) (out : List (List Int)), few_put F S.p d s wl = some out → ∀ {av : Nat → Prop} {vo vw : Value} {o : List (List Int)} {W : World}, FewI S av vo vw o wl W → (o.length + out.length) * 24 ≤ 140737488355328 →
      Calls Try.prog 108 #[.int .i64 s, .pointer (some ⟨S.gp, 0, none⟩), .pointer (some ⟨S.go, 0, none⟩), .pointer (some ⟨S.gw, 0, none⟩), .pointer (some ⟨S.gf, 0, none⟩)] W fun e W' => e = .returned (.tuple #[]) ∧ ∃ vo' vw', FewI S av vo' vw' (o ++ out) wl W' ∧ FewKeep av W W')
    {av : Nat → Prop} {vo vw : Value} {o : List (List Int)} {W : World} (h : FewI S av vo vw o wl W) (hol : (o.length + out.length) * 24 ≤ 140737488355328) :
    Calls Try.prog 108 #[.int .i64 s, .pointer (some ⟨S.gp, 0, none⟩), .pointer (some ⟨S.go, 0, none⟩), .pointer (some ⟨S.gw, 0, none⟩), .pointer (some ⟨S.gf, 0, none⟩)] W fun e W' => e = .returned (.tuple #[]) ∧ ∃ vo' vw', FewI S av vo' vw' (o ++ out) wl W' ∧ FewKeep av W W' := by
  have hu28 := Try.underlying28
  have hcp : W.cell? ⟨S.gp, 0, none⟩ = some (.slice S.A0 S.p.length S.c0) := (blk_cell h.cp 0).trans rfl
  have hst' : (s == t) = false := beq_eq_false_iff_ne.mpr hst
  have HALL := Aside0.mk (impl_Poset_all.calls S.A0 S.c0 S.p t W (Kd.C_below hS.C h.below) hS.le hal)
  have HI := Aside0.mk h
  have HOL := Aside0.mk hol
  have HNX := Aside0.mk hnx
  have HROW := Aside0.mk hrow
  have HL := Aside0.mk hl
  have IH := Aside0.mk @ih
  clear h hol hal hnx hrow hl ih hst
  go_enter Try.func108, Try.ntmps108
  go_wp2_with (first
    | (go_at_call 83; (with_reducible refine HALL.out.mono ?_); rintro e W1 ⟨rfl, hb1⟩; have HI1 := Aside0.mk (HI.out.step hb1); have hcp1 : W1.cell? ⟨S.gp, 0, none⟩ = some (.slice S.A0 S.p.length S.c0) := (blk_cell HI1.out.cp 0).trans rfl; have HB1 := Aside0.mk hb1; clear hb1)
    | (go_at_call 74; (with_reducible refine (impl_Poset_next.calls F S.A0 S.c0 S.p s l _ (Kd.C_below hS.C HI1.out.below) hS.le HNX.out).mono ?_); rintro e W2 ⟨vl, rfl, hr2, hb2⟩; obtain ⟨Al, cl, rfl⟩ := Kd.R_slice hr2; have HI2 := Aside0.mk (HI1.out.with_row hb2 hr2); have HB2 := Aside0.mk hb2; have HR2 := Aside0.mk hr2; clear hb2 hr2))
  go_loopg [21] (l.length + 1) (fun kq v21 w' => ∃ (i : Nat) (vo' vw' : Value) (o' rest : List (List Int)), v21 = .int .i64 (i : Int) ∧ Aside0 (kq + i = l.length + 1 ∧ i ≤ l.length) ∧ Aside0 (few_row (few_put F S.p d) s wl (l.drop i) = some rest) ∧ Aside0 (o' ++ rest = o ++ out) ∧ Aside0 (FewI S (fewAv av (.slice Al l.length cl)) vo' vw' o' wl w') ∧ Aside0 (FewKeep (fewAv av (.slice Al l.length cl)) W2 w'))
  case atStart => exact ⟨0, vo, vw, o, out, rfl, ⟨rfl, Nat.zero_le _⟩, HROW, ⟨rfl⟩, HI2, ⟨FewKeep.refl _ _⟩⟩
  case round =>
    obtain ⟨i, vo', vw', o', rest, rfl, HK, HRO, HEQ, HI3, HKP⟩ := hrel
    cases gk with
    | zero => exact absurd HK.out (by omega)
    | succ k1 =>
      obtain ⟨Aw, cw, rfl⟩ := Kd.R_slice HI3.out.HW
      have hcw' : wr.cell? ⟨S.gw, 0, none⟩ = some (.slice Aw wl.length cw) := (blk_cell HI3.out.cw 0).trans rfl
      have hfw' := blk_frozen HI3.out.cw 0
      by_cases hi : i < l.length
      · obtain ⟨e, hd⟩ : ∃ e, l.drop i = e :: l.drop (i + 1) := ⟨_, List.drop_eq_getElem_cons hi⟩
        obtain ⟨g, cap, ev, hgb, hgl, _⟩ := Kd.R_form HR2.out (by omega)
        injection ev with e1 e2 e3
        subst e1; subst e3
        clear e2
        have hcell : wr.cell? ⟨g, i, none⟩ = some (.int .i64 e) := by
          have := few_cell HR2.out HKP.out i hi
          rwa [(few_rd hd).2.1] at this
        have HRO' := HRO.out
        rw [hd] at HRO'
        unfold few_row at HRO'
        split at HRO'
        rotate_left
        · cases HRO'
        rename_i hew
        obtain ⟨o1, hA, HRO'⟩ := Option.bind_eq_some_iff.1 HRO'
        obtain ⟨o2, hB, HRO'⟩ := Option.bind_eq_some_iff.1 HRO'
        rw [few_shl] at hA
        have HSZ : Aside0 ((o'.length + o1.length) * 24 ≤ 140737488355328) := ⟨by have h1 := congrArg List.length HEQ.out; have h2 := congrArg List.length (Option.some.inj HRO'); have h3 := HOL.out; simp only [List.length_append] at h1 h2; omega⟩
        have HA := Aside0.mk hA
        have HB := Aside0.mk hB
        have HRE := Aside0.mk (Option.some.inj HRO')
        have HEW := Aside0.mk hew.2
        have he0 : (0 : Int) ≤ e := hew.1
        clear hA hB HRO' hew HRO hd
        have c1 : (0 : Int) ≤ (i : Int) := by omega
        have c2 : (i : Int) < (l.length : Int) := by omega
        have c3 : decide ((i : Int) < (l.length : Int)) = true := decide_eq_true c2
        have c5 : decide (i < l.length) = true := decide_eq_true hi
        have c4 := eq_true hi
        clear hi
        go_wp2_with ((with_reducible refine gate_builtin (b := .append) (xs := #[.tmp 25, .tmp 27]) rfl ?_); at_builtin; refine Kd.R_append (Kd.int .i64) (w0 := S.w) S.w.heap.size rfl (.tmp 25) (.tmp 27) 22 3 (.int .i64 0) 8 rfl Try.underlying22 info3 rfl (by decide) (by omega) (.slice Aw wl.length cw) wl e [.int .i64 e] (S.ok (fewAv av (.slice (some ⟨g, 0, none⟩) l.length cl))) (fun _ => False) rfl rfl ?aP (fun _ hk => hk.elim) ?aF ?aO ?aB ?aS ?aL ?_; (case aP => exact rfl); (case aB => exact HI3.out.below); (case aF => exact fun k hk => HI3.out.far hS hk); (case aO => exact HI3.out.HW); (case aS => exact HI3.out.below.size); (case aL => have := HEW.out; omega); intro v1 w1 hr1 hb1 hg1 hat1; obtain ⟨A1, n1, k1_, rfl⟩ : ∃ A n c, v1 = .slice A n c := (by obtain ⟨A, c, e⟩ := Kd.R_slice hr1; exact ⟨A, _, c, e⟩); have HP := Aside0.mk (HI3.out.put_w hS hr1 hb1 hg1 hat1); have hcw1 : w1.cell? ⟨S.gw, 0, none⟩ = some (.slice Aw wl.length cw) := (blk_cell (HI3.out.gw_kept hg1) 0).trans rfl; have hfw1 := blk_frozen (HI3.out.gw_kept hg1) 0; clear hr1 hb1 hg1 hat1)
        obtain ⟨W4, hW4⟩ : ∃ x, x = w1.setCell ⟨S.gw, 0, none⟩ (.slice A1 n1 k1_) := ⟨_, rfl⟩
        rw [← hW4]
        have HP4 := HP.out
        rw [← hW4] at HP4
        have HP5 := Aside0.mk HP4
        clear HP4 HP hW4 hcw1 hfw1 hcell hcw' hfw'
        have hcf4 : W4.cell? ⟨S.gf, 0, none⟩ = some (.func (.func 108) #[] S.caps) := (blk_cell HP5.out.1.cf 0).trans rfl
        unfold FewA.caps at hcf4
        go_region_with (go_at_call 108; (with_reducible refine (IH.out _ _ _ HA.out (HP5.out.1.step (below_drew (Below.refl _ _))) HSZ.out).mono ?_); rintro e' W5 ⟨rfl, vo2, vw2, hI5, hk5⟩; obtain ⟨A5, c5, rfl⟩ := Kd.R_slice hI5.HW; have hcw5 : W5.cell? ⟨S.gw, 0, none⟩ = some (.slice A5 (wl ++ [e]).length c5) := (blk_cell hI5.cw 0).trans rfl; have hfw5 := blk_frozen hI5.cw 0; have hlc5 := (Kd.R_reads' hI5.HW).2.1; have HI5 := Aside0.mk hI5; have HK5 := Aside0.mk hk5; clear hI5 hk5)
        rw [List.length_append, List.length_singleton] at hcw5 hlc5
        have hw5 : wrap64 (wl.length : Int) = (wl.length : Int) := few_w64 _ (Nat.le_succ_of_le HEW.out)
        have hwi : wrap64 ((i : Int) + 1) = ((i + 1 : Nat) : Int) := few_w64 (i + 1) (by have := HL.out; omega)
        have c6 : (0 : Int) ≤ (wl.length : Int) := by omega
        have c7 : (wl.length : Int) ≤ (c5 : Int) := by omega
        have c8 : (wl.length ≤ c5) = True := eq_true (by omega)
        go_wp2_with (fail)
        have HW5 := Aside0.mk (HI5.out.put_w hS (w1 := W5) (v1 := .slice A5 wl.length c5) (wl' := wl) (by have := Kd.R_take HI5.out.HW (m := wl.length) (by simp); simpa using this) HI5.out.below (World.grownBy.refl _ _) (.inl (by first | rfl | (cases A5 <;> rfl))))
        go_roundg k1
        case measure => omega
        case rel => exact ⟨i + 1, vo2, .slice A5 wl.length c5, o' ++ o1, o2, by rw [hwi], ⟨by have := HK.out; omega⟩, HB, ⟨by rw [List.append_assoc, HRE.out]; exact HEQ.out⟩, ⟨HW5.out.1⟩, ⟨HKP.out.trans (HP5.out.2.trans (FewKeep.trans (W2 := W5) HK5.out HW5.out.2))⟩⟩
      · have c3 : decide ((i : Int) < (l.length : Int)) = false := decide_eq_false (by omega)
        go_wp2_with (fail)
        have hil : i = l.length := by have := HK.out; omega
        have HRO' := HRO.out
        rw [hil, List.drop_length] at HRO'
        unfold few_row at HRO'
        have hre := Option.some.inj HRO'
        have hoo := HEQ.out
        rw [← hre, List.append_nil] at hoo
        exact bodyPost_end (v := .tuple #[]) (by simp [results, Try.results108, go_sem]) rfl ⟨rfl, vo', _, hoo ▸ HI3.out.forget, ((FewKeep.of_below HI.out.avlt HB1.out).trans (FewKeep.of_below HI1.out.avlt HB2.out)).trans HKP.out.forget⟩
theorem few_put_calls {S : FewA} (hS : S.Ok) (F : Nat) : ∀ (d : Nat) (s : Int) (wl : List Int) (out : List (List Int)), few_put F S.p d s wl = some out → ∀ (av : Nat → Prop) (vo vw : Value) (o : List (List Int)) (W : World), FewI S av vo vw o wl W → (o.length + out.length) * 24 ≤ 140737488355328 →
    Calls Try.prog 108 #[.int .i64 s, .pointer (some ⟨S.gp, 0, none⟩), .pointer (some ⟨S.go, 0, none⟩), .pointer (some ⟨S.gw, 0, none⟩), .pointer (some ⟨S.gf, 0, none⟩)] W fun e W' => e = .returned (.tuple #[]) ∧ ∃ vo' vw', FewI S av vo' vw' (o ++ out) wl W' ∧ FewKeep av W W'
  | 0, _, _, _, h => by cases h
  | d + 1, s, wl, out, h => by
    intro av vo vw o W hI hol
    unfold few_put at h
    obtain ⟨t, hal, h⟩ := Option.bind_eq_some_iff.1 h
    split at h
    · rename_i hst
      subst hst
      split at h
      rotate_left
      · cases h
      rename_i hlen
      obtain rfl := Option.some.inj h
      refine (few_all hS hI s hal hlen (by simpa using hol)).mono ?_
      rintro e W' ⟨rfl, vo', h1, h2⟩
      exact ⟨rfl, vo', _, h1, h2⟩
    · rename_i hst
      obtain ⟨l, hnx, h⟩ := Option.bind_eq_some_iff.1 h
      split at h
      rotate_left
      · cases h
      rename_i hl
      exact few_step hS F d t s l wl out hal hst hnx hl h (fun s wl out h av vo vw o W hI hs => few_put_calls hS F d s wl out h av vo vw o W hI hs) hI hol
def impl_few.f (k : Nat) (l0_0 : List Int) : Option (List (List Int) × Bool) :=
  (impl_IsPoset.f k l0_0).bind fun b => if b = true then ((impl_Poset_ways.f k l0_0).bind fun ways => if 0 < ways.length then (if rd ways 0 > 500 then some ([], false) else (few_put k l0_0 k 0 []).bind fun o => if o.length ≤ 1000 then some (o, true) else none) else none) else some ([], false)
theorem few_row_mono {g g' : Int → List Int → Option (List (List Int))} (h : ∀ s w, LeO (g s w) (g' s w)) (s : Int) (w : List Int) : ∀ l, LeO (few_row g s w l) (few_row g' s w l)
  | [] => LeO.refl _
  | e :: l => by
    unfold few_row
    exact LeO.ite (LeO.bind (h _ _) (fun _ => LeO.bind (few_row_mono h s w l) (fun _ => LeO.refl _))) (LeO.refl _)
theorem few_put_mono (p : List Int) (k : Nat) : ∀ d s w, LeO (few_put k p d s w) (few_put (k + 1) p (d + 1) s w)
  | 0, s, w => fun r h => by cases h
  | d + 1, s, w => by
    unfold few_put
    exact LeO.bind (LeO.refl _) (fun t => LeO.ite (LeO.refl _) (LeO.bind (impl_Poset_next.mono _ _ _) (fun l => LeO.ite (few_row_mono (fun s w => few_put_mono p k d s w) s w l) (LeO.refl _))))
theorem impl_few.mono : ∀ a0 k, LeO (impl_few.f k a0) (impl_few.f (k + 1) a0) := fun a0 k => by
  unfold impl_few.f
  exact LeO.bind (impl_IsPoset.mono _ _) (fun b => LeO.ite (LeO.bind (impl_Poset_ways.mono _ _) (fun ways => LeO.ite (LeO.ite (LeO.refl _) (LeO.bind (few_put_mono _ _ _ _ _) (fun _ => LeO.refl _))) (LeO.refl _))) (LeO.refl _))
set_option maxHeartbeats 8000000 in
set_option maxRecDepth 100000 in
theorem impl_few.calls (k : Nat) (A0_0 : Option Addr) (c0_0 : Nat) (l0_0 : List Int) (r1 : List (List Int)) (r2 : Bool) (w : World) (hr0_0 : Kd.C (Kd.int .i64) w A0_0 l0_0.length l0_0) (hc0_0 : l0_0.length ≤ c0_0) (h : impl_few.f k l0_0 = some (r1, r2)) :
    Calls Try.prog 91 #[.agg #[.slice A0_0 l0_0.length c0_0]] w fun e w' => ∃ v0_ : Value, e = .returned (.tuple #[v0_, .bool r2]) ∧ Kd.S (Kd.slice 3 (Kd.int .i64)) 22 w' w.heap.size (fun _ => True) v0_ r1 ∧ Below w.heap.size w w' := by
  have hu28 := Try.underlying28
  have hmf : ∀ (fn : Fn) (first cap : Array Value) (w : World), (Instr.makeFunc fn first cap).run Try.prog w = .ok (.func fn first cap) w := fun _ _ _ _ => rfl
  unfold impl_few.f at h
  obtain ⟨b, hb, h⟩ := Option.bind_eq_some_iff.1 h
  have HR := Aside0.mk hr0_0
  have HC := Aside0.mk hc0_0
  have HBP := Aside0.mk hb
  clear hr0_0 hc0_0 hb
  cases b
  · obtain ⟨rfl, rfl⟩ : [] = r1 ∧ false = r2 := by simpa using h
    clear h
    go_enter Try.func91, Try.ntmps91
    go_wp2_with (fail)
    refine (impl_IsPoset.calls k A0_0 c0_0 l0_0 false _ (by (with_reducible repeat (first | refine Kd.C_alloc ?_ _ | refine Kd.C_drewN ?_ _ | refine Kd.C_drew ?_)); exact HR.out) HC.out HBP.out).mono ?_
    rintro e w1 ⟨rfl, hb1⟩
    have HB1 := Aside0.mk hb1
    clear hb1
    go_wp2_with (fail)
    refine bodyPost_ret (results_tmp2 rfl _ _ _) rfl ?_
    exact ⟨_, rfl, ⟨fun _ => 0, Kd.R_nil _ _ _ _ _⟩, (below_alloc (Below.refl _ _) _).trans (HB1.out.mono (by simp))⟩
  · have h := (if_pos rfl).symm.trans h
    obtain ⟨ways, hw, h⟩ := Option.bind_eq_some_iff.1 h
    split at h
    rotate_left
    · cases h
    rename_i hlw
    have HW := Aside0.mk hw
    have HLW := Aside0.mk hlw
    clear hw hlw
    split at h
    · rename_i hgt
      obtain ⟨rfl, rfl⟩ : [] = r1 ∧ false = r2 := by simpa using h
      clear h
      have hgt' : decide (500 < rd ways 0) = true := decide_eq_true hgt
      go_enter Try.func91, Try.ntmps91
      go_wp2_with (fail)
      refine (impl_IsPoset.calls k A0_0 c0_0 l0_0 true _ (by (with_reducible repeat (first | refine Kd.C_alloc ?_ _ | refine Kd.C_drewN ?_ _ | refine Kd.C_drew ?_)); exact HR.out) HC.out HBP.out).mono ?_
      rintro e w1 ⟨rfl, hb1⟩
      have hP1 := blk_below (blk_new w (.cells #[.slice A0_0 l0_0.length c0_0] 28)) hb1
      have hp1 : w1.cell? ⟨w.heap.size, 0, none⟩ = some (.slice A0_0 l0_0.length c0_0) := (blk_cell hP1 0).trans rfl
      have HP1 := Aside0.mk hP1
      have HB1 := Aside0.mk ((below_alloc (Below.refl w.heap.size w) _).trans (hb1.mono (by simp)))
      clear hb1 hP1
      go_wp2_with (fail)
      refine (impl_Poset_ways.calls k A0_0 c0_0 l0_0 ways _ (Kd.C_below HR.out HB1.out) HC.out HW.out).mono ?_
      rintro e w2 ⟨vw, rfl, hrw, hb2⟩
      obtain ⟨gq, cq, rfl, _, _, _⟩ := Kd.R_form hrw HLW.out
      have hq2 := (Kd.R_cell (0 : Int) hrw 0 (by omega) (by have := HLW.out; omega)).1
      have hq3 : w2.cell? ⟨gq, 0, none⟩ = some (.int .i64 (rd ways 0)) := hq2
      have hP2 := Aside0.mk (blk_below HP1.out hb2)
      have HB2 := Aside0.mk (below_step HB1.out hb2)
      have hlw1 : (0 : Int) < (ways.length : Int) := by have := HLW.out; omega
      have hlw2 := HLW.out
      have hlw3 : decide (0 < ways.length) = true := decide_eq_true hlw2
      clear hb2 hrw hq2
      go_wp2_with (fail)
      refine bodyPost_ret (results_tmp2 rfl _ _ _) rfl ?_
      exact ⟨_, rfl, ⟨fun _ => 0, Kd.R_nil _ _ _ _ _⟩, HB2.out⟩
    · rename_i hgt
      have hgt' : decide (500 < rd ways 0) = false := decide_eq_false hgt
      obtain ⟨o, hput, h⟩ := Option.bind_eq_some_iff.1 h
      split at h
      rotate_left
      · cases h
      rename_i hol
      obtain ⟨rfl, rfl⟩ : o = r1 ∧ true = r2 := by simpa using h
      clear h
      have HPUT := Aside0.mk hput
      have HOL := Aside0.mk hol
      clear hput hol
      go_enter Try.func91, Try.ntmps91
      go_wp2_with (fail)
      refine (impl_IsPoset.calls k A0_0 c0_0 l0_0 true _ (by (with_reducible repeat (first | refine Kd.C_alloc ?_ _ | refine Kd.C_drewN ?_ _ | refine Kd.C_drew ?_)); exact HR.out) HC.out HBP.out).mono ?_
      rintro e w1 ⟨rfl, hb1⟩
      have hP1 := blk_below (blk_new w (.cells #[.slice A0_0 l0_0.length c0_0] 28)) hb1
      have hp1 : w1.cell? ⟨w.heap.size, 0, none⟩ = some (.slice A0_0 l0_0.length c0_0) := (blk_cell hP1 0).trans rfl
      have HP1 := Aside0.mk hP1
      have HB1 := Aside0.mk ((below_alloc (Below.refl w.heap.size w) _).trans (hb1.mono (by simp)))
      clear hb1 hP1
      go_wp2_with (fail)
      refine (impl_Poset_ways.calls k A0_0 c0_0 l0_0 ways _ (Kd.C_below HR.out HB1.out) HC.out HW.out).mono ?_
      rintro e w2 ⟨vw, rfl, hrw, hb2⟩
      obtain ⟨gq, cq, rfl, _, _, _⟩ := Kd.R_form hrw HLW.out
      have hq2 := (Kd.R_cell (0 : Int) hrw 0 (by omega) (by have := HLW.out; omega)).1
      have hq3 : w2.cell? ⟨gq, 0, none⟩ = some (.int .i64 (rd ways 0)) := hq2
      have hP2 := Aside0.mk (blk_below HP1.out hb2)
      have HB2 := Aside0.mk (below_step HB1.out hb2)
      have hlw1 : (0 : Int) < (ways.length : Int) := by have := HLW.out; omega
      have hlw2 := HLW.out
      have hlw3 : decide (0 < ways.length) = true := decide_eq_true hlw2
      clear hb2 hrw hq2
      obtain ⟨S, hS, rfl, hSw, e1, e2, e3, e4, hI⟩ := few_start HR.out HC.out HB2.out hP2.out
      have HS := Aside0.mk hS
      have hcaps : S.caps = #[.pointer (some ⟨w.heap.size, 0, none⟩), .pointer (some ⟨w2.heap.size + 1 + 1, 0, none⟩), .pointer (some ⟨w2.heap.size + 1 + 1 + 1, 0, none⟩), .pointer (some ⟨w2.heap.size + 1 + 1 + 1 + 1, 0, none⟩)] := by unfold FewA.caps; rw [e1, e2, e3, e4]
      have hcall := few_put_calls hS k k 0 [] o HPUT.out (fun _ => False) _ _ [] _ hI (by have := HOL.out; simp; omega)
      unfold fewWorld at hcall
      rw [hcaps, e1, e2, e3, e4] at hcall
      have HCALL := Aside0.mk hcall
      clear hcall hI hS
      go_wp2_with (fail)
      refine HCALL.out.mono ?_
      rintro e W5 ⟨rfl, vo', vw', h5, h6⟩
      obtain ⟨A5, n5, c5, rfl⟩ : ∃ A n c, vo' = .slice A n c := by obtain ⟨A, c, e⟩ := Kd.S_slice h5.HO; exact ⟨A, _, c, e⟩
      have hco5 : W5.cell? ⟨w2.heap.size + 1 + 1, 0, none⟩ = some (.slice A5 n5 c5) := by rw [← e2]; exact (blk_cell h5.co 0).trans rfl
      have H5 := Aside0.mk h5
      clear h5 h6 HCALL
      go_wp2_with (fail)
      refine bodyPost_ret (results_tmp2 rfl _ _ _) rfl ⟨_, rfl, ?_, ?_⟩
      · have := H5.out.HO
        rw [hSw, List.nil_append] at this
        exact Kd.S_mono this (fun _ _ => trivial)
      · have := H5.out.below
        rwa [hSw] at this
end Go.Proofs.Ytjahclncpgllmaa.F
end

section
namespace Go.Proofs.Ytjahclncpgllmaa.F
open Go.RowKit Go.Proofs.YtjahclncpgllmaaW.PrintWords Go.Proofs.YtjahclncpgllmaaW.PrintLast Go.Proofs.YtjahclncpgllmaaW.PrintMore
attribute [local go_sem] max2_int min2_int max_two min_two max_three min_three max_four min_four
set_option linter.unusedVariables false
set_option linter.unusedSimpArgs false

attribute [local go_sem high] eqA58
/-! ### impl_SelfEvacuated: function 51 -/
def impl_SelfEvacuated.l0 : Nat → Bool → Int → List (List Int) → Int → Int → List Int → Option (Int × Bool)
  | 0, _, _, _, _, _, _ => none
  | k + 1, x5, x6, x15, x16, x17, x1012000 => if x17 < x16 then (if 0 ≤ x17 then (if x17 < (x15.length : Int) then ((impl_lineOf.f (rd_L1 x15 x17)).bind fun bt1017 => ((impl_Poset_evacuated.f k x1012000 bt1017.1 bt1017.2.1 bt1017.2.2.1 bt1017.2.2.2.1 bt1017.2.2.2.2.1 bt1017.2.2.2.2.2.1 bt1017.2.2.2.2.2.2.1 bt1017.2.2.2.2.2.2.2.1 bt1017.2.2.2.2.2.2.2.2.1 bt1017.2.2.2.2.2.2.2.2.2).bind fun bt1028 => (if (bt1028.1 == bt1017.1 && (bt1028.2.1 == bt1017.2.1 && (bt1028.2.2.1 == bt1017.2.2.1 && (bt1028.2.2.2.1 == bt1017.2.2.2.1 && (bt1028.2.2.2.2.1 == bt1017.2.2.2.2.1 && (bt1028.2.2.2.2.2.1 == bt1017.2.2.2.2.2.1 && (bt1028.2.2.2.2.2.2.1 == bt1017.2.2.2.2.2.2.1 && (bt1028.2.2.2.2.2.2.2.1 == bt1017.2.2.2.2.2.2.2.1 && (bt1028.2.2.2.2.2.2.2.2.1 == bt1017.2.2.2.2.2.2.2.2.1 && (bt1028.2.2.2.2.2.2.2.2.2 == bt1017.2.2.2.2.2.2.2.2.2)))))))))) = true then (impl_SelfEvacuated.l0 k x5 (wrap64 (x6 + 1)) x15 x16 (wrap64 (x17 + 1)) x1012000) else (impl_SelfEvacuated.l0 k x5 x6 x15 x16 (wrap64 (x17 + 1)) x1012000)))) else (none)) else (none)) else (some (x6, x5))
def impl_SelfEvacuated.f (k : Nat) (l0_0 : List Int) : Option (Int × Bool) := (impl_few.f k l0_0).bind fun bt1012 => (impl_SelfEvacuated.l0 k bt1012.2 0 bt1012.1 (bt1012.1.length : Int) 0 l0_0)
theorem impl_SelfEvacuated.mono_l : ∀ k, (∀ y0 y1 y2 y3 y4 y5, LeO (impl_SelfEvacuated.l0 k y0 y1 y2 y3 y4 y5) (impl_SelfEvacuated.l0 (k + 1) y0 y1 y2 y3 y4 y5))
  | 0 => fun _ _ _ _ _ _ r h => by simp [impl_SelfEvacuated.l0] at h
  | k + 1 => by
    have ih0 := impl_SelfEvacuated.mono_l k
    · intro y0 y1 y2 y3 y4 y5
      unfold impl_SelfEvacuated.l0
      repeat' first
      | (with_reducible exact ih0 _ _ _ _ _ _)
      | (with_reducible exact impl_Poset_evacuated.mono _ _ _ _ _ _ _ _ _ _ _ _)
      | (with_reducible exact impl_few.mono _ _)
      | (with_reducible exact LeO.refl _)
      | (with_reducible exact LeO.none _)
      | (with_reducible refine LeO.ite ?_ ?_)
      | (with_reducible refine LeO.bind ?_ (fun _ => ?_))
      | exact ih0 _ _ _ _ _ _
      | exact impl_Poset_evacuated.mono _ _ _ _ _ _ _ _ _ _ _ _
      | exact impl_few.mono _ _
      | exact LeO.none _
      | refine LeO.ite ?_ ?_
      | refine LeO.bind ?_ (fun _ => ?_)
theorem impl_SelfEvacuated.mono : ∀ a0 k, LeO (impl_SelfEvacuated.f k a0) (impl_SelfEvacuated.f (k + 1) a0) := by
  intro a0 k
  have ih0 := impl_SelfEvacuated.mono_l k
  unfold impl_SelfEvacuated.f
  repeat' first
      | (with_reducible exact ih0 _ _ _ _ _ _)
      | (with_reducible exact impl_Poset_evacuated.mono _ _ _ _ _ _ _ _ _ _ _ _)
      | (with_reducible exact impl_few.mono _ _)
      | (with_reducible exact LeO.refl _)
      | (with_reducible exact LeO.none _)
      | (with_reducible refine LeO.ite ?_ ?_)
      | (with_reducible refine LeO.bind ?_ (fun _ => ?_))
      | exact ih0 _ _ _ _ _ _
      | exact impl_Poset_evacuated.mono _ _ _ _ _ _ _ _ _ _ _ _
      | exact impl_few.mono _ _
      | exact LeO.none _
      | refine LeO.ite ?_ ?_
      | refine LeO.bind ?_ (fun _ => ?_)
set_option maxHeartbeats 8000000 in
set_option maxRecDepth 100000 in
theorem impl_SelfEvacuated.calls (k : Nat) (A0_0 : Option Addr) (c0_0 : Nat) (l0_0 : List Int) (r1 : Int) (r2 : Bool) (w : World) (hr0_0 : Kd.C (Kd.int .i64) w A0_0 l0_0.length l0_0) (hc0_0 : l0_0.length ≤ c0_0) (h : impl_SelfEvacuated.f k l0_0 = some (r1, r2)) :
    Calls Try.prog 51 #[.agg #[.slice A0_0 l0_0.length c0_0]] w fun e w' => e = .returned (.tuple #[.int .i64 r1, .bool r2]) ∧ Below w.heap.size w w' := by
  have hu28 := Try.underlying28
  have hu58 := Try.underlying58
  have HR0_0 := Aside0.mk hr0_0
  have HC0_0 := Aside0.mk hc0_0
  clear hr0_0 hc0_0
  have HB := Aside0.mk (Below.refl w.heap.size w)
  have H : ((impl_few.f k l0_0).bind fun bt1012 => (impl_SelfEvacuated.l0 k bt1012.2 0 bt1012.1 (bt1012.1.length : Int) 0 l0_0)) = some (r1, r2) := h
  clear h
  replace H := Option.bind_eq_some_iff.mp H
  obtain ⟨⟨t1012, t1015⟩, A20, H⟩ := H
  replace H : (impl_SelfEvacuated.l0 k t1015 0 t1012 (t1012.length : Int) 0 l0_0) = some (r1, r2) := H
  have A2 := Aside0.mk A20
  clear A20
  have H' := Aside0.mk H
  clear H
  go_enter Try.func51, Try.ntmps51
  go_wp2_with (first | ((with_reducible refine gate_dst (N := 1) rfl ?_); refine box_event ?hg (N := 1) ?hd (cs := #[.slice A0_0 l0_0.length c0_0]) (t := 28) ?hr ?_; (case hd => rfl); (case hg => rfl); (case hr => first | (go_simp; done) | (go_simp; rfl)); intro gb1011 hg w3 hbox hb; have n0_ := Aside0.mk (below_step (by repeat (first | (with_reducible first | exact HB.out | apply below_alloc | apply pw_below_drewN | apply below_drew1) | exact HB.out)) hb); have n1_ := Aside0.mk (hbox); have n2_ := Aside0.mk ((by rw [hg]; exact (below_size (by repeat (first | (with_reducible first | exact HB.out | apply below_alloc | apply pw_below_drewN | apply below_drew1) | exact HB.out))) : w.heap.size ≤ gb1011)); have n3_ := Aside0.mk ((by rw [hg]; exact (below_size (by repeat (first | (with_reducible first | exact HB.out | apply below_alloc | apply pw_below_drewN | apply below_drew1) | exact HB.out))) : w.heap.size ≤ gb1011)); clear HB; have HB := n0_; have BK1011 := n1_; have GW1011 := n2_; have GE1011 := n3_; clear n0_ n1_ n2_ n3_; clear hb hbox hg; have hcz4_0 : w3.cell? ⟨gb1011, 0, none⟩ = some (.slice A0_0 l0_0.length c0_0) := (blk_cell BK1011.out 0).trans rfl; have hfz4_0 := blk_frozen BK1011.out 0) | ((with_reducible refine gate_callee (f := 91) rfl ?_); refine goesL_ (some 12) rfl rfl Try.func91 (by kernel_rfl) rfl #[.agg #[.slice A0_0 l0_0.length c0_0]] rfl (by (try simp only [List.map_toArray, List.map_cons, List.map_nil]); first | done | rfl | (simp only [List.length_drop, List.length_take]; rfl)) ?_; (with_reducible refine (impl_few.calls k _ _ l0_0 t1012 t1015 _ ?side1 ?side2 A2.out).mono ?_); (case side1 => repeat (first | exact (Kd.C_below HR0_0.out HB.out) | (with_reducible refine Kd.C_alloc ?_ _) | (with_reducible refine Kd.C_drewN ?_ _) | (with_reducible refine Kd.C_drew ?_))); (case side2 => exact HC0_0.out); rintro e w5 ⟨v1013, rfl, ho0, hb⟩; refine ⟨_, rfl, ?_⟩; have n0_ := Aside0.mk (Kd.S_lower ho0 (below_size (by repeat (first | (with_reducible first | exact HB.out | apply below_alloc | apply pw_below_drewN | apply below_drew1 | refine below_set ?_ GE1011.out) | exact HB.out)))); have n1_ := Aside0.mk (blk_below (g := gb1011) (o := .cells #[.slice A0_0 l0_0.length c0_0] 28 (0, 0)) (by (with_reducible repeat (first | refine blk_drewN ?_ _ | refine blk_drew ?_ | refine blk_alloc ?_ _)); exact BK1011.out) hb); have n2_ := Aside0.mk (below_step (by repeat (first | (with_reducible first | exact HB.out | apply below_alloc | apply pw_below_drewN | apply below_drew1 | refine below_set ?_ GE1011.out) | exact HB.out)) hb); clear BK1011; clear HB; have HO1014 := n0_; have BK1011 := n1_; have HB := n2_; clear n0_ n1_ n2_; (try clear hb); (try clear hb2); (try clear hk); (try clear hi); (try clear ho0); obtain ⟨Ao6, co6, eo6⟩ := Kd.S_slice HO1014.out; subst eo6))
  go_loopg [6, 17] k (fun kq v6 v17 w' => ∃ (x6_1 : Int) (x17_1 : Int), v6 = .int .i64 x6_1 ∧ v17 = .int .i64 x17_1 ∧ Aside0 (impl_SelfEvacuated.l0 kq t1015 x6_1 t1012 (t1012.length : Int) x17_1 l0_0 = some (r1, r2)) ∧ Aside0 (kq ≤ k) ∧ Aside0 (Kd.S (Kd.slice 3 (Kd.int .i64)) 22 w' w.heap.size (fun _ => True) (.slice Ao6 t1012.length co6) t1012) ∧ Aside0 (w'.heap[gb1011]? = some (.cells #[(.slice A0_0 l0_0.length c0_0)] 28 (0, 0))) ∧ Aside0 (Below w.heap.size w w'))
  case atStart => exact ⟨(0), (0), (by first | rfl | (simp; done) | (simp [*]; done)), (by first | rfl | (simp; done) | (simp [*]; done)), H', ⟨Nat.le_refl _⟩, ⟨by (with_reducible repeat (first | apply Kd.S_alloc | apply Kd.S_drewN | apply Kd.S_drew)); exact HO1014.out⟩, ⟨by (with_reducible repeat (first | refine blk_drewN ?_ _ | refine blk_drew ?_ | refine blk_alloc ?_ _)); exact BK1011.out⟩, ⟨by repeat (first | (with_reducible first | exact HB.out | apply below_alloc | apply pw_below_drewN | apply below_drew1 | refine below_set ?_ GE1011.out) | exact HB.out)⟩⟩
  case round =>
    clear H'
    try clear p2
    try clear c5
    try clear hcz4_0
    try clear hfz4_0
    obtain ⟨x6_1, x17_1, rfl, rfl, HA, HK1, HO_15, BK1011, HB⟩ := hrel
    cases gk with
    | zero => exact absurd HA.out (by simp [impl_SelfEvacuated.l0])
    | succ k1 =>
      have H := HA.out
      clear HA
      simp only [impl_SelfEvacuated.l0] at H
      by_cases c7 : x17_1 < (t1012.length : Int)
      · rw [if_pos c7] at H
        have c7b0 : decide (x17_1 < (t1012.length : Int)) = true := decide_eq_true c7
        clear c7
        by_cases c8 : 0 ≤ x17_1
        · rw [if_pos c8] at H
          have c8b0 : decide (0 ≤ x17_1) = true := decide_eq_true c8
          clear c8
          by_cases c9 : x17_1 < (t1012.length : Int)
          · rw [if_pos c9] at H
            have c9b0 : decide (x17_1 < (t1012.length : Int)) = true := decide_eq_true c9
            clear c9
            replace H := Option.bind_eq_some_iff.mp H
            obtain ⟨⟨t1017, t1018, t1019, t1020, t1021, t1022, t1023, t1024, t1025, t1026⟩, A100, H⟩ := H
            replace H : ((impl_Poset_evacuated.f k1 l0_0 t1017 t1018 t1019 t1020 t1021 t1022 t1023 t1024 t1025 t1026).bind fun bt1028 => (if (bt1028.1 == t1017 && (bt1028.2.1 == t1018 && (bt1028.2.2.1 == t1019 && (bt1028.2.2.2.1 == t1020 && (bt1028.2.2.2.2.1 == t1021 && (bt1028.2.2.2.2.2.1 == t1022 && (bt1028.2.2.2.2.2.2.1 == t1023 && (bt1028.2.2.2.2.2.2.2.1 == t1024 && (bt1028.2.2.2.2.2.2.2.2.1 == t1025 && (bt1028.2.2.2.2.2.2.2.2.2 == t1026)))))))))) = true then (impl_SelfEvacuated.l0 k1 t1015 (wrap64 (x6_1 + 1)) t1012 (t1012.length : Int) (wrap64 (x17_1 + 1)) l0_0) else (impl_SelfEvacuated.l0 k1 t1015 x6_1 t1012 (t1012.length : Int) (wrap64 (x17_1 + 1)) l0_0))) = some (r1, r2) := H
            have A10 := Aside0.mk A100
            clear A100
            replace H := Option.bind_eq_some_iff.mp H
            obtain ⟨⟨t1028, t1029, t1030, t1031, t1032, t1033, t1034, t1035, t1036, t1037⟩, A110, H⟩ := H
            replace H : (if (t1028 == t1017 && (t1029 == t1018 && (t1030 == t1019 && (t1031 == t1020 && (t1032 == t1021 && (t1033 == t1022 && (t1034 == t1023 && (t1035 == t1024 && (t1036 == t1025 && (t1037 == t1026)))))))))) = true then (impl_SelfEvacuated.l0 k1 t1015 (wrap64 (x6_1 + 1)) t1012 (t1012.length : Int) (wrap64 (x17_1 + 1)) l0_0) else (impl_SelfEvacuated.l0 k1 t1015 x6_1 t1012 (t1012.length : Int) (wrap64 (x17_1 + 1)) l0_0)) = some (r1, r2) := H
            have A11 := Aside0.mk A110
            clear A110
            by_cases c12 : (t1028 == t1017 && (t1029 == t1018 && (t1030 == t1019 && (t1031 == t1020 && (t1032 == t1021 && (t1033 == t1022 && (t1034 == t1023 && (t1035 == t1024 && (t1036 == t1025 && (t1037 == t1026)))))))))) = true
            · rw [if_pos c12] at H
              have c12b0 : (t1028 == t1017 && (t1029 == t1018 && (t1030 == t1019 && (t1031 == t1020 && (t1032 == t1021 && (t1033 == t1022 && (t1034 == t1023 && (t1035 == t1024 && (t1036 == t1025 && (t1037 == t1026)))))))))) = true := c12
              (try (have c12b1 : decide (t1028 = t1017 && (t1029 == t1018 && (t1030 == t1019 && (t1031 == t1020 && (t1032 == t1021 && (t1033 == t1022 && (t1034 == t1023 && (t1035 == t1024 && (t1036 == t1025 && (t1037 == t1026)))))))))) = true := by simpa using c12))
              (try (have c12b2 : (t1028 == t1017 && (t1029 == t1018 && (t1030 == t1019 && (t1031 == t1020 && (t1032 == t1021 && (t1033 == t1022 && (t1034 == t1023 && (t1035 == t1024 && (t1036 == t1025 && (t1037 == t1026)))))))))) = true := by simpa using c12))
              clear c12
              have H' := Aside0.mk H
              clear H
              have p1016 : 0 ≤ (x17_1 : Int) := of_decide_eq_true (by first | (with_reducible assumption) | assumption)
              have q1016 : x17_1 < (t1012.length : Int) := of_decide_eq_true (by first | (with_reducible assumption) | assumption)
              obtain ⟨ad1016, A1016_0, c1016_0, e1016, hx1016_0, hl1016_0, hi1016_0⟩ := at_L1 (Kd.S_reads' HO_15.out).2.2 x17_1 p1016 q1016
              cases e1016
              obtain ⟨ce1016, hce1016, hMe1016, hcc1016⟩ := Kd.S_get HO_15.out [] x17_1 p1016 (by first | exact q1016 | exact of_decide_eq_true (by first | (with_reducible assumption) | assumption) | (have e_ := (Kd.S_reads' HO_15.out).1; omega))
              obtain ⟨ve1016_0, rfl, ge1016_0⟩ := hMe1016
              have hv1016_0 := hcc1016 0 _ rfl
              rw [Nat.add_zero, show ((Kd.slice 3 (Kd.int .i64))).sz = 1 from rfl, Nat.mul_one] at hv1016_0
              replace hv1016_0 := Option.some.inj (hv1016_0.symm.trans hx1016_0)
              rw [hv1016_0] at ge1016_0
              have HL1016_0 := Aside0.mk (show Kd.R (Kd.int .i64) 3 _ _ _ _ (rd_L1 t1012 x17_1) from ge1016_0)
              clear hv1016_0 ge1016_0
              clear hcc1016 hce1016
              have HR1016_0 := Aside0.mk hi1016_0
              have HC1016_0 := Aside0.mk hl1016_0
              clear hi1016_0 hl1016_0
              replace p1016 := eq_true p1016
              replace q1016 := eq_true q1016
              try go_wp2_with (first | ((with_reducible refine gate_callee (f := 60) rfl ?_); refine goesL_ (some 22) rfl rfl Try.func60 (by kernel_rfl) rfl #[.slice A1016_0 (rd_L1 t1012 x17_1).length c1016_0] rfl (by (try simp only [List.map_toArray, List.map_cons, List.map_nil]); first | done | rfl | (simp only [List.length_drop, List.length_take]; rfl)) ?_; (with_reducible refine (impl_lineOf.calls _ _ (rd_L1 t1012 x17_1) t1017 t1018 t1019 t1020 t1021 t1022 t1023 t1024 t1025 t1026 _ ?side1 ?side2 A10.out).mono ?_); (case side1 => repeat (first | exact (by repeat (first | (with_reducible exact HR1016_0.out) | (with_reducible refine Kd.C_alloc ?_ _) | (with_reducible refine Kd.C_drewN ?_ _) | (with_reducible refine Kd.C_drew ?_) | exact HR1016_0.out)) | (with_reducible refine Kd.C_alloc ?_ _) | (with_reducible refine Kd.C_drewN ?_ _) | (with_reducible refine Kd.C_drew ?_))); (case side2 => exact HC1016_0.out); rintro e w13 ⟨rfl, hb⟩; refine ⟨_, rfl, ?_⟩; have n0_ := Aside0.mk (Kd.S_below (by (with_reducible repeat (first | apply Kd.S_alloc | apply Kd.S_drewN | apply Kd.S_drew)); exact HO_15.out) hb); have n1_ := Aside0.mk (Kd.R_below (by (with_reducible repeat (first | apply Kd.R_alloc | apply Kd.R_drewN | apply Kd.R_drew)); exact HL1016_0.out) hb); have n2_ := Aside0.mk (blk_below (g := gb1011) (o := .cells #[.slice A0_0 l0_0.length c0_0] 28 (0, 0)) (by (with_reducible repeat (first | refine blk_drewN ?_ _ | refine blk_drew ?_ | refine blk_alloc ?_ _)); exact BK1011.out) hb); have n3_ := Aside0.mk (Kd.C_below (by repeat (first | (with_reducible exact HR1016_0.out) | (with_reducible refine Kd.C_alloc ?_ _) | (with_reducible refine Kd.C_drewN ?_ _) | (with_reducible refine Kd.C_drew ?_) | exact HR1016_0.out)) hb); have n4_ := Aside0.mk (below_step (by repeat (first | (with_reducible first | exact HB.out | apply below_alloc | apply pw_below_drewN | apply below_drew1 | refine below_set ?_ GE1011.out) | exact HB.out)) hb); clear HO_15; clear HL1016_0; clear BK1011; clear HR1016_0; clear HB; have HO_15 := n0_; have HL1016_0 := n1_; have BK1011 := n2_; have HR1016_0 := n3_; have HB := n4_; clear n0_ n1_ n2_ n3_ n4_; (try clear hb); (try clear hb2); (try clear hk); (try clear hi)) | ((with_reducible refine gate_dst (N := 9) rfl ?_); refine box_event ?hg (N := 9) ?hd (cs := #[.int .i64 0, .int .i64 0, .int .i64 0, .int .i64 0, .int .i64 0, .int .i64 0, .int .i64 0, .int .i64 0, .int .i64 0, .int .i64 0]) (t := 58) ?hr ?_; (case hd => rfl); (case hg => rfl); (case hr => first | (go_simp; done) | (go_simp; rfl)); intro gb1027 hg w14 hbox hb; have n0_ := Aside0.mk (Kd.S_below (by (with_reducible repeat (first | apply Kd.S_alloc | apply Kd.S_drewN | apply Kd.S_drew)); exact HO_15.out) hb); have n1_ := Aside0.mk (Kd.R_below (by (with_reducible repeat (first | apply Kd.R_alloc | apply Kd.R_drewN | apply Kd.R_drew)); exact HL1016_0.out) hb); have n2_ := Aside0.mk (blk_below (g := gb1011) (o := .cells #[.slice A0_0 l0_0.length c0_0] 28 (0, 0)) (by (with_reducible repeat (first | refine blk_drewN ?_ _ | refine blk_drew ?_ | refine blk_alloc ?_ _)); exact BK1011.out) hb); have n3_ := Aside0.mk (Kd.C_below (by repeat (first | (with_reducible exact HR1016_0.out) | (with_reducible refine Kd.C_alloc ?_ _) | (with_reducible refine Kd.C_drewN ?_ _) | (with_reducible refine Kd.C_drew ?_) | exact HR1016_0.out)) hb); have n4_ := Aside0.mk (below_step (by repeat (first | (with_reducible first | exact HB.out | apply below_alloc | apply pw_below_drewN | apply below_drew1 | refine below_set ?_ GE1011.out) | exact HB.out)) hb); have n5_ := Aside0.mk (hbox); have n6_ := Aside0.mk ((by rw [hg]; exact (below_size (by repeat (first | (with_reducible first | exact HB.out | apply below_alloc | apply pw_below_drewN | apply below_drew1 | refine below_set ?_ GE1011.out) | exact HB.out))) : w.heap.size ≤ gb1027)); have n7_ := Aside0.mk ((by rw [hg]; exact (below_size (by repeat (first | (with_reducible first | exact HB.out | apply below_alloc | apply pw_below_drewN | apply below_drew1 | refine below_set ?_ GE1011.out) | exact HB.out))) : w.heap.size ≤ gb1027)); have n8_ := Aside0.mk ((by rw [hg]; exact Nat.ne_of_lt (blk_lt (g := gb1011) (o := .cells #[.slice A0_0 l0_0.length c0_0] 28 (0, 0)) (by (with_reducible repeat (first | refine blk_drewN ?_ _ | refine blk_drew ?_ | refine blk_alloc ?_ _)); exact BK1011.out)) : gb1011 ≠ gb1027)); have n9_ := Aside0.mk ((by rw [hg]; exact Nat.ne_of_gt (blk_lt (g := gb1011) (o := .cells #[.slice A0_0 l0_0.length c0_0] 28 (0, 0)) (by (with_reducible repeat (first | refine blk_drewN ?_ _ | refine blk_drew ?_ | refine blk_alloc ?_ _)); exact BK1011.out)) : gb1027 ≠ gb1011)); clear HO_15; clear HL1016_0; clear BK1011; clear HR1016_0; clear HB; have HO_15 := n0_; have HL1016_0 := n1_; have BK1011 := n2_; have HR1016_0 := n3_; have HB := n4_; have BK1027 := n5_; have GW1027 := n6_; have GE1027 := n7_; have NB1011_1027 := n8_; have NB1027_1011 := n9_; clear n0_ n1_ n2_ n3_ n4_ n5_ n6_ n7_ n8_ n9_; clear hb hbox hg; have hnb15 := NB1027_1011.out; have hnc15 := NB1011_1027.out; have hcz16_0 : w14.cell? ⟨gb1027, 0, none⟩ = some (.int .i64 0) := (blk_cell BK1027.out 0).trans rfl; have hcz16_1 : w14.cell? ⟨gb1027, 1, none⟩ = some (.int .i64 0) := (blk_cell BK1027.out 1).trans rfl; have hcz16_2 : w14.cell? ⟨gb1027, 2, none⟩ = some (.int .i64 0) := (blk_cell BK1027.out 2).trans rfl; have hcz16_3 : w14.cell? ⟨gb1027, 3, none⟩ = some (.int .i64 0) := (blk_cell BK1027.out 3).trans rfl; have hcz16_4 : w14.cell? ⟨gb1027, 4, none⟩ = some (.int .i64 0) := (blk_cell BK1027.out 4).trans rfl; have hcz16_5 : w14.cell? ⟨gb1027, 5, none⟩ = some (.int .i64 0) := (blk_cell BK1027.out 5).trans rfl; have hcz16_6 : w14.cell? ⟨gb1027, 6, none⟩ = some (.int .i64 0) := (blk_cell BK1027.out 6).trans rfl; have hcz16_7 : w14.cell? ⟨gb1027, 7, none⟩ = some (.int .i64 0) := (blk_cell BK1027.out 7).trans rfl; have hcz16_8 : w14.cell? ⟨gb1027, 8, none⟩ = some (.int .i64 0) := (blk_cell BK1027.out 8).trans rfl; have hcz16_9 : w14.cell? ⟨gb1027, 9, none⟩ = some (.int .i64 0) := (blk_cell BK1027.out 9).trans rfl; have hfz16_0 := blk_frozen BK1027.out 0; have hfz16_1 := blk_frozen BK1027.out 1; have hfz16_2 := blk_frozen BK1027.out 2; have hfz16_3 := blk_frozen BK1027.out 3; have hfz16_4 := blk_frozen BK1027.out 4; have hfz16_5 := blk_frozen BK1027.out 5; have hfz16_6 := blk_frozen BK1027.out 6; have hfz16_7 := blk_frozen BK1027.out 7; have hfz16_8 := blk_frozen BK1027.out 8; have hfz16_9 := blk_frozen BK1027.out 9))
              have n0_ : Aside0 (Kd.S (Kd.slice 3 (Kd.int .i64)) 22 ((((((((((w14.setCell ⟨gb1027, 0, none⟩ (.int .i64 t1017)).setCell ⟨gb1027, 1, none⟩ (.int .i64 t1018)).setCell ⟨gb1027, 2, none⟩ (.int .i64 t1019)).setCell ⟨gb1027, 3, none⟩ (.int .i64 t1020)).setCell ⟨gb1027, 4, none⟩ (.int .i64 t1021)).setCell ⟨gb1027, 5, none⟩ (.int .i64 t1022)).setCell ⟨gb1027, 6, none⟩ (.int .i64 t1023)).setCell ⟨gb1027, 7, none⟩ (.int .i64 t1024)).setCell ⟨gb1027, 8, none⟩ (.int .i64 t1025)).setCell ⟨gb1027, 9, none⟩ (.int .i64 t1026)) w.heap.size (fun _ => True) (.slice (some ad1016) t1012.length co6) t1012) := ⟨by (with_reducible repeat (first | apply Kd.S_alloc | apply Kd.S_drewN | apply Kd.S_drew)); exact Kd.S_mono (Kd.S_far (p := ⟨gb1027, 9, none⟩) (Kd.S_far (p := ⟨gb1027, 8, none⟩) (Kd.S_far (p := ⟨gb1027, 7, none⟩) (Kd.S_far (p := ⟨gb1027, 6, none⟩) (Kd.S_far (p := ⟨gb1027, 5, none⟩) (Kd.S_far (p := ⟨gb1027, 4, none⟩) (Kd.S_far (p := ⟨gb1027, 3, none⟩) (Kd.S_far (p := ⟨gb1027, 2, none⟩) (Kd.S_far (p := ⟨gb1027, 1, none⟩) (Kd.S_far (p := ⟨gb1027, 0, none⟩) (Kd.S_types HO_15.out BK1027.out (by decide)) (fun _ hk => hk.2) (.int .i64 t1017)) (fun _ hk => hk.2) (.int .i64 t1018)) (fun _ hk => hk.2) (.int .i64 t1019)) (fun _ hk => hk.2) (.int .i64 t1020)) (fun _ hk => hk.2) (.int .i64 t1021)) (fun _ hk => hk.2) (.int .i64 t1022)) (fun _ hk => hk.2) (.int .i64 t1023)) (fun _ hk => hk.2) (.int .i64 t1024)) (fun _ hk => hk.2) (.int .i64 t1025)) (fun _ hk => hk.2) (.int .i64 t1026)) (fun _ hk => trivial)⟩
              have n1_ : Aside0 (Kd.R (Kd.int .i64) 3 ((((((((((w14.setCell ⟨gb1027, 0, none⟩ (.int .i64 t1017)).setCell ⟨gb1027, 1, none⟩ (.int .i64 t1018)).setCell ⟨gb1027, 2, none⟩ (.int .i64 t1019)).setCell ⟨gb1027, 3, none⟩ (.int .i64 t1020)).setCell ⟨gb1027, 4, none⟩ (.int .i64 t1021)).setCell ⟨gb1027, 5, none⟩ (.int .i64 t1022)).setCell ⟨gb1027, 6, none⟩ (.int .i64 t1023)).setCell ⟨gb1027, 7, none⟩ (.int .i64 t1024)).setCell ⟨gb1027, 8, none⟩ (.int .i64 t1025)).setCell ⟨gb1027, 9, none⟩ (.int .i64 t1026)) w.heap.size (fun k_ => some k_ ≠ (.slice (some ad1016) t1012.length co6 : Value).ownBlock) (.slice A1016_0 (rd_L1 t1012 x17_1).length c1016_0) (rd_L1 t1012 x17_1)) := ⟨by (with_reducible repeat (first | apply Kd.R_alloc | apply Kd.R_drewN | apply Kd.R_drew)); exact Kd.R_mono (Kd.R_far (p := ⟨gb1027, 9, none⟩) (Kd.R_far (p := ⟨gb1027, 8, none⟩) (Kd.R_far (p := ⟨gb1027, 7, none⟩) (Kd.R_far (p := ⟨gb1027, 6, none⟩) (Kd.R_far (p := ⟨gb1027, 5, none⟩) (Kd.R_far (p := ⟨gb1027, 4, none⟩) (Kd.R_far (p := ⟨gb1027, 3, none⟩) (Kd.R_far (p := ⟨gb1027, 2, none⟩) (Kd.R_far (p := ⟨gb1027, 1, none⟩) (Kd.R_far (p := ⟨gb1027, 0, none⟩) (Kd.R_types HL1016_0.out BK1027.out (by decide)) (fun _ hk => hk.2) (.int .i64 t1017)) (fun _ hk => hk.2) (.int .i64 t1018)) (fun _ hk => hk.2) (.int .i64 t1019)) (fun _ hk => hk.2) (.int .i64 t1020)) (fun _ hk => hk.2) (.int .i64 t1021)) (fun _ hk => hk.2) (.int .i64 t1022)) (fun _ hk => hk.2) (.int .i64 t1023)) (fun _ hk => hk.2) (.int .i64 t1024)) (fun _ hk => hk.2) (.int .i64 t1025)) (fun _ hk => hk.2) (.int .i64 t1026)) (fun _ hk => hk.1.2)⟩
              have n2_ : Aside0 (((((((((((w14.setCell ⟨gb1027, 0, none⟩ (.int .i64 t1017)).setCell ⟨gb1027, 1, none⟩ (.int .i64 t1018)).setCell ⟨gb1027, 2, none⟩ (.int .i64 t1019)).setCell ⟨gb1027, 3, none⟩ (.int .i64 t1020)).setCell ⟨gb1027, 4, none⟩ (.int .i64 t1021)).setCell ⟨gb1027, 5, none⟩ (.int .i64 t1022)).setCell ⟨gb1027, 6, none⟩ (.int .i64 t1023)).setCell ⟨gb1027, 7, none⟩ (.int .i64 t1024)).setCell ⟨gb1027, 8, none⟩ (.int .i64 t1025)).setCell ⟨gb1027, 9, none⟩ (.int .i64 t1026)).heap[gb1011]? = some (.cells #[.slice A0_0 l0_0.length c0_0] 28 (0, 0))) := ⟨by (with_reducible repeat (first | refine blk_drewN ?_ _ | refine blk_drew ?_ | refine blk_alloc ?_ _)); refine blk_far ?_ NB1011_1027.out _; (with_reducible repeat (first | refine blk_drewN ?_ _ | refine blk_drew ?_ | refine blk_alloc ?_ _)); refine blk_far ?_ NB1011_1027.out _; (with_reducible repeat (first | refine blk_drewN ?_ _ | refine blk_drew ?_ | refine blk_alloc ?_ _)); refine blk_far ?_ NB1011_1027.out _; (with_reducible repeat (first | refine blk_drewN ?_ _ | refine blk_drew ?_ | refine blk_alloc ?_ _)); refine blk_far ?_ NB1011_1027.out _; (with_reducible repeat (first | refine blk_drewN ?_ _ | refine blk_drew ?_ | refine blk_alloc ?_ _)); refine blk_far ?_ NB1011_1027.out _; (with_reducible repeat (first | refine blk_drewN ?_ _ | refine blk_drew ?_ | refine blk_alloc ?_ _)); refine blk_far ?_ NB1011_1027.out _; (with_reducible repeat (first | refine blk_drewN ?_ _ | refine blk_drew ?_ | refine blk_alloc ?_ _)); refine blk_far ?_ NB1011_1027.out _; (with_reducible repeat (first | refine blk_drewN ?_ _ | refine blk_drew ?_ | refine blk_alloc ?_ _)); refine blk_far ?_ NB1011_1027.out _; (with_reducible repeat (first | refine blk_drewN ?_ _ | refine blk_drew ?_ | refine blk_alloc ?_ _)); refine blk_far ?_ NB1011_1027.out _; (with_reducible repeat (first | refine blk_drewN ?_ _ | refine blk_drew ?_ | refine blk_alloc ?_ _)); refine blk_far ?_ NB1011_1027.out _; (with_reducible repeat (first | refine blk_drewN ?_ _ | refine blk_drew ?_ | refine blk_alloc ?_ _)); exact BK1011.out⟩
              have n3_ : Aside0 (((((((((((w14.setCell ⟨gb1027, 0, none⟩ (.int .i64 t1017)).setCell ⟨gb1027, 1, none⟩ (.int .i64 t1018)).setCell ⟨gb1027, 2, none⟩ (.int .i64 t1019)).setCell ⟨gb1027, 3, none⟩ (.int .i64 t1020)).setCell ⟨gb1027, 4, none⟩ (.int .i64 t1021)).setCell ⟨gb1027, 5, none⟩ (.int .i64 t1022)).setCell ⟨gb1027, 6, none⟩ (.int .i64 t1023)).setCell ⟨gb1027, 7, none⟩ (.int .i64 t1024)).setCell ⟨gb1027, 8, none⟩ (.int .i64 t1025)).setCell ⟨gb1027, 9, none⟩ (.int .i64 t1026)).heap[gb1027]? = some (.cells #[.int .i64 t1017, .int .i64 t1018, .int .i64 t1019, .int .i64 t1020, .int .i64 t1021, .int .i64 t1022, .int .i64 t1023, .int .i64 t1024, .int .i64 t1025, .int .i64 t1026] 58 (0, 0))) := ⟨by (with_reducible repeat (first | refine blk_drewN ?_ _ | refine blk_drew ?_ | refine blk_alloc ?_ _)); refine blk_put (cs := #[.int .i64 t1017, .int .i64 t1018, .int .i64 t1019, .int .i64 t1020, .int .i64 t1021, .int .i64 t1022, .int .i64 t1023, .int .i64 t1024, .int .i64 t1025, .int .i64 0]) ?_ 9 _ rfl; (with_reducible repeat (first | refine blk_drewN ?_ _ | refine blk_drew ?_ | refine blk_alloc ?_ _)); refine blk_put (cs := #[.int .i64 t1017, .int .i64 t1018, .int .i64 t1019, .int .i64 t1020, .int .i64 t1021, .int .i64 t1022, .int .i64 t1023, .int .i64 t1024, .int .i64 0, .int .i64 0]) ?_ 8 _ rfl; (with_reducible repeat (first | refine blk_drewN ?_ _ | refine blk_drew ?_ | refine blk_alloc ?_ _)); refine blk_put (cs := #[.int .i64 t1017, .int .i64 t1018, .int .i64 t1019, .int .i64 t1020, .int .i64 t1021, .int .i64 t1022, .int .i64 t1023, .int .i64 0, .int .i64 0, .int .i64 0]) ?_ 7 _ rfl; (with_reducible repeat (first | refine blk_drewN ?_ _ | refine blk_drew ?_ | refine blk_alloc ?_ _)); refine blk_put (cs := #[.int .i64 t1017, .int .i64 t1018, .int .i64 t1019, .int .i64 t1020, .int .i64 t1021, .int .i64 t1022, .int .i64 0, .int .i64 0, .int .i64 0, .int .i64 0]) ?_ 6 _ rfl; (with_reducible repeat (first | refine blk_drewN ?_ _ | refine blk_drew ?_ | refine blk_alloc ?_ _)); refine blk_put (cs := #[.int .i64 t1017, .int .i64 t1018, .int .i64 t1019, .int .i64 t1020, .int .i64 t1021, .int .i64 0, .int .i64 0, .int .i64 0, .int .i64 0, .int .i64 0]) ?_ 5 _ rfl; (with_reducible repeat (first | refine blk_drewN ?_ _ | refine blk_drew ?_ | refine blk_alloc ?_ _)); refine blk_put (cs := #[.int .i64 t1017, .int .i64 t1018, .int .i64 t1019, .int .i64 t1020, .int .i64 0, .int .i64 0, .int .i64 0, .int .i64 0, .int .i64 0, .int .i64 0]) ?_ 4 _ rfl; (with_reducible repeat (first | refine blk_drewN ?_ _ | refine blk_drew ?_ | refine blk_alloc ?_ _)); refine blk_put (cs := #[.int .i64 t1017, .int .i64 t1018, .int .i64 t1019, .int .i64 0, .int .i64 0, .int .i64 0, .int .i64 0, .int .i64 0, .int .i64 0, .int .i64 0]) ?_ 3 _ rfl; (with_reducible repeat (first | refine blk_drewN ?_ _ | refine blk_drew ?_ | refine blk_alloc ?_ _)); refine blk_put (cs := #[.int .i64 t1017, .int .i64 t1018, .int .i64 0, .int .i64 0, .int .i64 0, .int .i64 0, .int .i64 0, .int .i64 0, .int .i64 0, .int .i64 0]) ?_ 2 _ rfl; (with_reducible repeat (first | refine blk_drewN ?_ _ | refine blk_drew ?_ | refine blk_alloc ?_ _)); refine blk_put (cs := #[.int .i64 t1017, .int .i64 0, .int .i64 0, .int .i64 0, .int .i64 0, .int .i64 0, .int .i64 0, .int .i64 0, .int .i64 0, .int .i64 0]) ?_ 1 _ rfl; (with_reducible repeat (first | refine blk_drewN ?_ _ | refine blk_drew ?_ | refine blk_alloc ?_ _)); refine blk_put (cs := #[.int .i64 0, .int .i64 0, .int .i64 0, .int .i64 0, .int .i64 0, .int .i64 0, .int .i64 0, .int .i64 0, .int .i64 0, .int .i64 0]) ?_ 0 _ rfl; (with_reducible repeat (first | refine blk_drewN ?_ _ | refine blk_drew ?_ | refine blk_alloc ?_ _)); exact BK1027.out⟩
              have n4_ : Aside0 (Below w.heap.size w ((((((((((w14.setCell ⟨gb1027, 0, none⟩ (.int .i64 t1017)).setCell ⟨gb1027, 1, none⟩ (.int .i64 t1018)).setCell ⟨gb1027, 2, none⟩ (.int .i64 t1019)).setCell ⟨gb1027, 3, none⟩ (.int .i64 t1020)).setCell ⟨gb1027, 4, none⟩ (.int .i64 t1021)).setCell ⟨gb1027, 5, none⟩ (.int .i64 t1022)).setCell ⟨gb1027, 6, none⟩ (.int .i64 t1023)).setCell ⟨gb1027, 7, none⟩ (.int .i64 t1024)).setCell ⟨gb1027, 8, none⟩ (.int .i64 t1025)).setCell ⟨gb1027, 9, none⟩ (.int .i64 t1026))) := ⟨by repeat (first | (with_reducible first | exact HB.out | apply below_alloc | apply pw_below_drewN | apply below_drew1 | refine below_set ?_ GE1011.out | refine below_set ?_ GE1027.out) | exact HB.out)⟩
              (try clear HO_15)
              (try clear HL1016_0)
              (try clear BK1011)
              (try clear BK1027)
              (try clear HB)
              generalize ((((((((((w14.setCell ⟨gb1027, 0, none⟩ (.int .i64 t1017)).setCell ⟨gb1027, 1, none⟩ (.int .i64 t1018)).setCell ⟨gb1027, 2, none⟩ (.int .i64 t1019)).setCell ⟨gb1027, 3, none⟩ (.int .i64 t1020)).setCell ⟨gb1027, 4, none⟩ (.int .i64 t1021)).setCell ⟨gb1027, 5, none⟩ (.int .i64 t1022)).setCell ⟨gb1027, 6, none⟩ (.int .i64 t1023)).setCell ⟨gb1027, 7, none⟩ (.int .i64 t1024)).setCell ⟨gb1027, 8, none⟩ (.int .i64 t1025)).setCell ⟨gb1027, 9, none⟩ (.int .i64 t1026)) = w17 at n0_ n1_ n2_ n3_ n4_ ⊢
              have HO_15 := n0_
              have HL1016_0 := n1_
              have BK1011 := n2_
              have BK1027 := n3_
              have HB := n4_
              clear n0_ n1_ n2_ n3_ n4_
              have n0_ := Aside0.mk (Kd.S_drew HO_15.out)
              have n1_ := Aside0.mk (Kd.R_drew HL1016_0.out)
              have n2_ := Aside0.mk (blk_drew BK1011.out)
              have n3_ := Aside0.mk (blk_drew BK1027.out)
              have n4_ := Aside0.mk (below_drew1 HB.out)
              clear HO_15
              clear HL1016_0
              clear BK1011
              clear BK1027
              clear HB
              have HO_15 := n0_
              have HL1016_0 := n1_
              have BK1011 := n2_
              have BK1027 := n3_
              have HB := n4_
              clear n0_ n1_ n2_ n3_ n4_
              refine start_ (n := 5) (S := fun w' => w'.cell? ⟨gb1011, 0, none⟩ = some (.slice A0_0 l0_0.length c0_0) ∧ w'.cell? ⟨gb1027, 0, none⟩ = some (.int .i64 t1017) ∧ w'.cell? ⟨gb1027, 1, none⟩ = some (.int .i64 t1018) ∧ w'.cell? ⟨gb1027, 2, none⟩ = some (.int .i64 t1019) ∧ w'.cell? ⟨gb1027, 3, none⟩ = some (.int .i64 t1020) ∧ w'.cell? ⟨gb1027, 4, none⟩ = some (.int .i64 t1021) ∧ w'.cell? ⟨gb1027, 5, none⟩ = some (.int .i64 t1022) ∧ w'.cell? ⟨gb1027, 6, none⟩ = some (.int .i64 t1023) ∧ w'.cell? ⟨gb1027, 7, none⟩ = some (.int .i64 t1024) ∧ w'.cell? ⟨gb1027, 8, none⟩ = some (.int .i64 t1025) ∧ w'.cell? ⟨gb1027, 9, none⟩ = some (.int .i64 t1026)) (ds := []) #[false, false, false, false, false] (by kernel_rfl) rfl rfl ⟨(blk_cell BK1011.out 0).trans rfl, (blk_cell BK1027.out 0).trans rfl, (blk_cell BK1027.out 1).trans rfl, (blk_cell BK1027.out 2).trans rfl, (blk_cell BK1027.out 3).trans rfl, (blk_cell BK1027.out 4).trans rfl, (blk_cell BK1027.out 5).trans rfl, (blk_cell BK1027.out 6).trans rfl, (blk_cell BK1027.out 7).trans rfl, (blk_cell BK1027.out 8).trans rfl, (blk_cell BK1027.out 9).trans rfl⟩ (fun hHeld => ?_)
              generalize w17.drew = w18 at HO_15 HL1016_0 BK1011 BK1027 HB hHeld ⊢
              refine take_ (i := 0) (N := some 23) (v := ?_) (a' := ?_) #[true, false, false, false, false] rfl rfl (by kernel_rfl) (fun _ _ _ h => h) (Or.inl ⟨by rfl, ?_⟩) hHeld ?_ ?_
              rotate_left
              · rintro w' ⟨s0, s1, s2, s3, s4, s5, s6, s7, s8, s9, s10⟩
                go_simp
                with_reducible rfl
              rotate_left
              · simp only [Act.put, List.setIfInBounds_toArray, List.set_cons_zero, List.set_cons_succ, i64_w, i32_w]
                rfl
              refine take_ (i := 1) (N := some 24) (v := ?_) (a' := ?_) #[true, true, false, false, false] rfl rfl (by kernel_rfl) (fun _ _ _ h => h) (Or.inl ⟨by rfl, ?_⟩) hHeld ?_ ?_
              rotate_left
              · rintro w' ⟨s0, s1, s2, s3, s4, s5, s6, s7, s8, s9, s10⟩
                go_simp
                with_reducible rfl
              rotate_left
              · simp only [Act.put, List.setIfInBounds_toArray, List.set_cons_zero, List.set_cons_succ, i64_w, i32_w]
                rfl
              refine take_ (i := 3) (N := some 26) (v := ?_) (a' := ?_) #[true, true, false, true, false] rfl rfl (by kernel_rfl) (fun _ _ _ h => h) (Or.inl ⟨by rfl, ?_⟩) hHeld ?_ ?_
              rotate_left
              · rintro w' ⟨s0, s1, s2, s3, s4, s5, s6, s7, s8, s9, s10⟩
                go_simp
                with_reducible rfl
              rotate_left
              · simp only [Act.put, List.setIfInBounds_toArray, List.set_cons_zero, List.set_cons_succ, i64_w, i32_w]
                rfl
              refine one_ (i := 2) (N := some 25) #[true, true, true, true, false] rfl rfl (by kernel_rfl) (by decide) (fun K hK => ?_)
              refine goes_ Try.func64 (by kernel_rfl) rfl #[.agg #[.slice A0_0 l0_0.length c0_0], .agg #[.int .i64 t1017, .int .i64 t1018, .int .i64 t1019, .int .i64 t1020, .int .i64 t1021, .int .i64 t1022, .int .i64 t1023, .int .i64 t1024, .int .i64 t1025, .int .i64 t1026]] (by rfl) rfl rfl (by (try simp only [List.map_toArray, List.map_cons, List.map_nil]); first | done | rfl | (simp only [List.length_drop, List.length_take]; rfl)) ?_
              with_reducible refine (impl_Poset_evacuated.calls k1 _ _ l0_0 t1017 t1018 t1019 t1020 t1021 t1022 t1023 t1024 t1025 t1026 t1028 t1029 t1030 t1031 t1032 t1033 t1034 t1035 t1036 t1037 _ ?side1 ?side2 A11.out).mono ?_
              (case side1 => repeat (first | exact (Kd.C_below HR0_0.out HB.out) | (with_reducible refine Kd.C_alloc ?_ _) | (with_reducible refine Kd.C_drewN ?_ _) | (with_reducible refine Kd.C_drew ?_)))
              (case side2 => exact HC0_0.out)
              rintro e w19 ⟨rfl, hb⟩
              refine ⟨_, rfl, ?_⟩
              have n0_ := Aside0.mk (Kd.S_below (by (with_reducible repeat (first | apply Kd.S_alloc | apply Kd.S_drewN | apply Kd.S_drew)); exact HO_15.out) hb)
              have n1_ := Aside0.mk (Kd.R_below (by (with_reducible repeat (first | apply Kd.R_alloc | apply Kd.R_drewN | apply Kd.R_drew)); exact HL1016_0.out) hb)
              have n2_ := Aside0.mk (blk_below (g := gb1011) (o := .cells #[.slice A0_0 l0_0.length c0_0] 28 (0, 0)) (by (with_reducible repeat (first | refine blk_drewN ?_ _ | refine blk_drew ?_ | refine blk_alloc ?_ _)); exact BK1011.out) hb)
              have n3_ := Aside0.mk (blk_below (g := gb1027) (o := .cells #[.int .i64 t1017, .int .i64 t1018, .int .i64 t1019, .int .i64 t1020, .int .i64 t1021, .int .i64 t1022, .int .i64 t1023, .int .i64 t1024, .int .i64 t1025, .int .i64 t1026] 58 (0, 0)) (by (with_reducible repeat (first | refine blk_drewN ?_ _ | refine blk_drew ?_ | refine blk_alloc ?_ _)); exact BK1027.out) hb)
              have n4_ := Aside0.mk (below_step (by repeat (first | (with_reducible first | exact HB.out | apply below_alloc | apply pw_below_drewN | apply below_drew1 | refine below_set ?_ GE1011.out | refine below_set ?_ GE1027.out) | exact HB.out)) hb)
              clear HO_15
              clear HL1016_0
              clear BK1011
              clear BK1027
              clear HB
              have HO_15 := n0_
              have HL1016_0 := n1_
              have BK1011 := n2_
              have BK1027 := n3_
              have HB := n4_
              clear n0_ n1_ n2_ n3_ n4_
              (try clear hb)
              (try clear hb2)
              (try clear hk)
              (try clear hi)
              refine hK.out _ _ ⟨(blk_cell BK1011.out 0).trans rfl, (blk_cell BK1027.out 0).trans rfl, (blk_cell BK1027.out 1).trans rfl, (blk_cell BK1027.out 2).trans rfl, (blk_cell BK1027.out 3).trans rfl, (blk_cell BK1027.out 4).trans rfl, (blk_cell BK1027.out 5).trans rfl, (blk_cell BK1027.out 6).trans rfl, (blk_cell BK1027.out 7).trans rfl, (blk_cell BK1027.out 8).trans rfl, (blk_cell BK1027.out 9).trans rfl⟩ (fun hHeld => ?_)
              clear hK K
              refine norm_ (a' := ?_) ?_ ?_
              rotate_left
              · show Act.put _ (some 25) _ = _
                simp only [Act.put, List.setIfInBounds_toArray, List.set_cons_zero, List.set_cons_succ, i64_w, i32_w]
                rfl
              refine pure_ (i := 4) (N := some 27) (v := ?_) (a' := ?_) #[true, true, true, true, true] rfl rfl (by kernel_rfl) (fun _ _ _ h => h) (Or.inl ⟨by rfl, ?_⟩) ?_ ?_
              rotate_left
              · intro w'
                go_simp
                with_reducible rfl
              rotate_left
              · simp only [Act.put, List.setIfInBounds_toArray, List.set_cons_zero, List.set_cons_succ, i64_w, i32_w]
                rfl
              refine done_ (by kernel_rfl) ?_
              try go_wp2
              go_roundg k1
              case measure => have := HK1.out; omega
              case rel => exact ⟨(wrap64 (x6_1 + 1)), (wrap64 (x17_1 + 1)), (by first | rfl | (simp; done) | (simp [*]; done)), (by first | rfl | (simp; done) | (simp [*]; done)), H', ⟨by have := HK1.out; omega⟩, ⟨by (with_reducible repeat (first | apply Kd.S_alloc | apply Kd.S_drewN | apply Kd.S_drew)); exact HO_15.out⟩, ⟨by (with_reducible repeat (first | refine blk_drewN ?_ _ | refine blk_drew ?_ | refine blk_alloc ?_ _)); exact BK1011.out⟩, ⟨by repeat (first | (with_reducible first | exact HB.out | apply below_alloc | apply pw_below_drewN | apply below_drew1 | refine below_set ?_ GE1011.out | refine below_set ?_ GE1027.out) | exact HB.out)⟩⟩
            · rw [if_neg c12] at H
              have c12b0 : (t1028 == t1017 && (t1029 == t1018 && (t1030 == t1019 && (t1031 == t1020 && (t1032 == t1021 && (t1033 == t1022 && (t1034 == t1023 && (t1035 == t1024 && (t1036 == t1025 && (t1037 == t1026)))))))))) = false := by simpa using c12
              (try (have c12b1 : decide (t1028 = t1017 && (t1029 == t1018 && (t1030 == t1019 && (t1031 == t1020 && (t1032 == t1021 && (t1033 == t1022 && (t1034 == t1023 && (t1035 == t1024 && (t1036 == t1025 && (t1037 == t1026)))))))))) = false := by simpa using c12))
              (try (have c12b2 : (t1028 == t1017 && (t1029 == t1018 && (t1030 == t1019 && (t1031 == t1020 && (t1032 == t1021 && (t1033 == t1022 && (t1034 == t1023 && (t1035 == t1024 && (t1036 == t1025 && (t1037 == t1026)))))))))) = false := by simpa using c12))
              (try (have c12b3 : ¬ (t1028 = t1017 && (t1029 == t1018 && (t1030 == t1019 && (t1031 == t1020 && (t1032 == t1021 && (t1033 == t1022 && (t1034 == t1023 && (t1035 == t1024 && (t1036 == t1025 && (t1037 == t1026)))))))))) := by simpa using c12))
              clear c12
              have H' := Aside0.mk H
              clear H
              have p1016 : 0 ≤ (x17_1 : Int) := of_decide_eq_true (by first | (with_reducible assumption) | assumption)
              have q1016 : x17_1 < (t1012.length : Int) := of_decide_eq_true (by first | (with_reducible assumption) | assumption)
              obtain ⟨ad1016, A1016_0, c1016_0, e1016, hx1016_0, hl1016_0, hi1016_0⟩ := at_L1 (Kd.S_reads' HO_15.out).2.2 x17_1 p1016 q1016
              cases e1016
              obtain ⟨ce1016, hce1016, hMe1016, hcc1016⟩ := Kd.S_get HO_15.out [] x17_1 p1016 (by first | exact q1016 | exact of_decide_eq_true (by first | (with_reducible assumption) | assumption) | (have e_ := (Kd.S_reads' HO_15.out).1; omega))
              obtain ⟨ve1016_0, rfl, ge1016_0⟩ := hMe1016
              have hv1016_0 := hcc1016 0 _ rfl
              rw [Nat.add_zero, show ((Kd.slice 3 (Kd.int .i64))).sz = 1 from rfl, Nat.mul_one] at hv1016_0
              replace hv1016_0 := Option.some.inj (hv1016_0.symm.trans hx1016_0)
              rw [hv1016_0] at ge1016_0
              have HL1016_0 := Aside0.mk (show Kd.R (Kd.int .i64) 3 _ _ _ _ (rd_L1 t1012 x17_1) from ge1016_0)
              clear hv1016_0 ge1016_0
              clear hcc1016 hce1016
              have HR1016_0 := Aside0.mk hi1016_0
              have HC1016_0 := Aside0.mk hl1016_0
              clear hi1016_0 hl1016_0
              replace p1016 := eq_true p1016
              replace q1016 := eq_true q1016
              try go_wp2_with (first | ((with_reducible refine gate_callee (f := 60) rfl ?_); refine goesL_ (some 22) rfl rfl Try.func60 (by kernel_rfl) rfl #[.slice A1016_0 (rd_L1 t1012 x17_1).length c1016_0] rfl (by (try simp only [List.map_toArray, List.map_cons, List.map_nil]); first | done | rfl | (simp only [List.length_drop, List.length_take]; rfl)) ?_; (with_reducible refine (impl_lineOf.calls _ _ (rd_L1 t1012 x17_1) t1017 t1018 t1019 t1020 t1021 t1022 t1023 t1024 t1025 t1026 _ ?side1 ?side2 A10.out).mono ?_); (case side1 => repeat (first | exact (by repeat (first | (with_reducible exact HR1016_0.out) | (with_reducible refine Kd.C_alloc ?_ _) | (with_reducible refine Kd.C_drewN ?_ _) | (with_reducible refine Kd.C_drew ?_) | exact HR1016_0.out)) | (with_reducible refine Kd.C_alloc ?_ _) | (with_reducible refine Kd.C_drewN ?_ _) | (with_reducible refine Kd.C_drew ?_))); (case side2 => exact HC1016_0.out); rintro e w20 ⟨rfl, hb⟩; refine ⟨_, rfl, ?_⟩; have n0_ := Aside0.mk (Kd.S_below (by (with_reducible repeat (first | apply Kd.S_alloc | apply Kd.S_drewN | apply Kd.S_drew)); exact HO_15.out) hb); have n1_ := Aside0.mk (Kd.R_below (by (with_reducible repeat (first | apply Kd.R_alloc | apply Kd.R_drewN | apply Kd.R_drew)); exact HL1016_0.out) hb); have n2_ := Aside0.mk (blk_below (g := gb1011) (o := .cells #[.slice A0_0 l0_0.length c0_0] 28 (0, 0)) (by (with_reducible repeat (first | refine blk_drewN ?_ _ | refine blk_drew ?_ | refine blk_alloc ?_ _)); exact BK1011.out) hb); have n3_ := Aside0.mk (Kd.C_below (by repeat (first | (with_reducible exact HR1016_0.out) | (with_reducible refine Kd.C_alloc ?_ _) | (with_reducible refine Kd.C_drewN ?_ _) | (with_reducible refine Kd.C_drew ?_) | exact HR1016_0.out)) hb); have n4_ := Aside0.mk (below_step (by repeat (first | (with_reducible first | exact HB.out | apply below_alloc | apply pw_below_drewN | apply below_drew1 | refine below_set ?_ GE1011.out) | exact HB.out)) hb); clear HO_15; clear HL1016_0; clear BK1011; clear HR1016_0; clear HB; have HO_15 := n0_; have HL1016_0 := n1_; have BK1011 := n2_; have HR1016_0 := n3_; have HB := n4_; clear n0_ n1_ n2_ n3_ n4_; (try clear hb); (try clear hb2); (try clear hk); (try clear hi)) | ((with_reducible refine gate_dst (N := 9) rfl ?_); refine box_event ?hg (N := 9) ?hd (cs := #[.int .i64 0, .int .i64 0, .int .i64 0, .int .i64 0, .int .i64 0, .int .i64 0, .int .i64 0, .int .i64 0, .int .i64 0, .int .i64 0]) (t := 58) ?hr ?_; (case hd => rfl); (case hg => rfl); (case hr => first | (go_simp; done) | (go_simp; rfl)); intro gb1027 hg w21 hbox hb; have n0_ := Aside0.mk (Kd.S_below (by (with_reducible repeat (first | apply Kd.S_alloc | apply Kd.S_drewN | apply Kd.S_drew)); exact HO_15.out) hb); have n1_ := Aside0.mk (Kd.R_below (by (with_reducible repeat (first | apply Kd.R_alloc | apply Kd.R_drewN | apply Kd.R_drew)); exact HL1016_0.out) hb); have n2_ := Aside0.mk (blk_below (g := gb1011) (o := .cells #[.slice A0_0 l0_0.length c0_0] 28 (0, 0)) (by (with_reducible repeat (first | refine blk_drewN ?_ _ | refine blk_drew ?_ | refine blk_alloc ?_ _)); exact BK1011.out) hb); have n3_ := Aside0.mk (Kd.C_below (by repeat (first | (with_reducible exact HR1016_0.out) | (with_reducible refine Kd.C_alloc ?_ _) | (with_reducible refine Kd.C_drewN ?_ _) | (with_reducible refine Kd.C_drew ?_) | exact HR1016_0.out)) hb); have n4_ := Aside0.mk (below_step (by repeat (first | (with_reducible first | exact HB.out | apply below_alloc | apply pw_below_drewN | apply below_drew1 | refine below_set ?_ GE1011.out) | exact HB.out)) hb); have n5_ := Aside0.mk (hbox); have n6_ := Aside0.mk ((by rw [hg]; exact (below_size (by repeat (first | (with_reducible first | exact HB.out | apply below_alloc | apply pw_below_drewN | apply below_drew1 | refine below_set ?_ GE1011.out) | exact HB.out))) : w.heap.size ≤ gb1027)); have n7_ := Aside0.mk ((by rw [hg]; exact (below_size (by repeat (first | (with_reducible first | exact HB.out | apply below_alloc | apply pw_below_drewN | apply below_drew1 | refine below_set ?_ GE1011.out) | exact HB.out))) : w.heap.size ≤ gb1027)); have n8_ := Aside0.mk ((by rw [hg]; exact Nat.ne_of_lt (blk_lt (g := gb1011) (o := .cells #[.slice A0_0 l0_0.length c0_0] 28 (0, 0)) (by (with_reducible repeat (first | refine blk_drewN ?_ _ | refine blk_drew ?_ | refine blk_alloc ?_ _)); exact BK1011.out)) : gb1011 ≠ gb1027)); have n9_ := Aside0.mk ((by rw [hg]; exact Nat.ne_of_gt (blk_lt (g := gb1011) (o := .cells #[.slice A0_0 l0_0.length c0_0] 28 (0, 0)) (by (with_reducible repeat (first | refine blk_drewN ?_ _ | refine blk_drew ?_ | refine blk_alloc ?_ _)); exact BK1011.out)) : gb1027 ≠ gb1011)); clear HO_15; clear HL1016_0; clear BK1011; clear HR1016_0; clear HB; have HO_15 := n0_; have HL1016_0 := n1_; have BK1011 := n2_; have HR1016_0 := n3_; have HB := n4_; have BK1027 := n5_; have GW1027 := n6_; have GE1027 := n7_; have NB1011_1027 := n8_; have NB1027_1011 := n9_; clear n0_ n1_ n2_ n3_ n4_ n5_ n6_ n7_ n8_ n9_; clear hb hbox hg; have hnb22 := NB1027_1011.out; have hnc22 := NB1011_1027.out; have hcz23_0 : w21.cell? ⟨gb1027, 0, none⟩ = some (.int .i64 0) := (blk_cell BK1027.out 0).trans rfl; have hcz23_1 : w21.cell? ⟨gb1027, 1, none⟩ = some (.int .i64 0) := (blk_cell BK1027.out 1).trans rfl; have hcz23_2 : w21.cell? ⟨gb1027, 2, none⟩ = some (.int .i64 0) := (blk_cell BK1027.out 2).trans rfl; have hcz23_3 : w21.cell? ⟨gb1027, 3, none⟩ = some (.int .i64 0) := (blk_cell BK1027.out 3).trans rfl; have hcz23_4 : w21.cell? ⟨gb1027, 4, none⟩ = some (.int .i64 0) := (blk_cell BK1027.out 4).trans rfl; have hcz23_5 : w21.cell? ⟨gb1027, 5, none⟩ = some (.int .i64 0) := (blk_cell BK1027.out 5).trans rfl; have hcz23_6 : w21.cell? ⟨gb1027, 6, none⟩ = some (.int .i64 0) := (blk_cell BK1027.out 6).trans rfl; have hcz23_7 : w21.cell? ⟨gb1027, 7, none⟩ = some (.int .i64 0) := (blk_cell BK1027.out 7).trans rfl; have hcz23_8 : w21.cell? ⟨gb1027, 8, none⟩ = some (.int .i64 0) := (blk_cell BK1027.out 8).trans rfl; have hcz23_9 : w21.cell? ⟨gb1027, 9, none⟩ = some (.int .i64 0) := (blk_cell BK1027.out 9).trans rfl; have hfz23_0 := blk_frozen BK1027.out 0; have hfz23_1 := blk_frozen BK1027.out 1; have hfz23_2 := blk_frozen BK1027.out 2; have hfz23_3 := blk_frozen BK1027.out 3; have hfz23_4 := blk_frozen BK1027.out 4; have hfz23_5 := blk_frozen BK1027.out 5; have hfz23_6 := blk_frozen BK1027.out 6; have hfz23_7 := blk_frozen BK1027.out 7; have hfz23_8 := blk_frozen BK1027.out 8; have hfz23_9 := blk_frozen BK1027.out 9))
              have n0_ : Aside0 (Kd.S (Kd.slice 3 (Kd.int .i64)) 22 ((((((((((w21.setCell ⟨gb1027, 0, none⟩ (.int .i64 t1017)).setCell ⟨gb1027, 1, none⟩ (.int .i64 t1018)).setCell ⟨gb1027, 2, none⟩ (.int .i64 t1019)).setCell ⟨gb1027, 3, none⟩ (.int .i64 t1020)).setCell ⟨gb1027, 4, none⟩ (.int .i64 t1021)).setCell ⟨gb1027, 5, none⟩ (.int .i64 t1022)).setCell ⟨gb1027, 6, none⟩ (.int .i64 t1023)).setCell ⟨gb1027, 7, none⟩ (.int .i64 t1024)).setCell ⟨gb1027, 8, none⟩ (.int .i64 t1025)).setCell ⟨gb1027, 9, none⟩ (.int .i64 t1026)) w.heap.size (fun _ => True) (.slice (some ad1016) t1012.length co6) t1012) := ⟨by (with_reducible repeat (first | apply Kd.S_alloc | apply Kd.S_drewN | apply Kd.S_drew)); exact Kd.S_mono (Kd.S_far (p := ⟨gb1027, 9, none⟩) (Kd.S_far (p := ⟨gb1027, 8, none⟩) (Kd.S_far (p := ⟨gb1027, 7, none⟩) (Kd.S_far (p := ⟨gb1027, 6, none⟩) (Kd.S_far (p := ⟨gb1027, 5, none⟩) (Kd.S_far (p := ⟨gb1027, 4, none⟩) (Kd.S_far (p := ⟨gb1027, 3, none⟩) (Kd.S_far (p := ⟨gb1027, 2, none⟩) (Kd.S_far (p := ⟨gb1027, 1, none⟩) (Kd.S_far (p := ⟨gb1027, 0, none⟩) (Kd.S_types HO_15.out BK1027.out (by decide)) (fun _ hk => hk.2) (.int .i64 t1017)) (fun _ hk => hk.2) (.int .i64 t1018)) (fun _ hk => hk.2) (.int .i64 t1019)) (fun _ hk => hk.2) (.int .i64 t1020)) (fun _ hk => hk.2) (.int .i64 t1021)) (fun _ hk => hk.2) (.int .i64 t1022)) (fun _ hk => hk.2) (.int .i64 t1023)) (fun _ hk => hk.2) (.int .i64 t1024)) (fun _ hk => hk.2) (.int .i64 t1025)) (fun _ hk => hk.2) (.int .i64 t1026)) (fun _ hk => trivial)⟩
              have n1_ : Aside0 (Kd.R (Kd.int .i64) 3 ((((((((((w21.setCell ⟨gb1027, 0, none⟩ (.int .i64 t1017)).setCell ⟨gb1027, 1, none⟩ (.int .i64 t1018)).setCell ⟨gb1027, 2, none⟩ (.int .i64 t1019)).setCell ⟨gb1027, 3, none⟩ (.int .i64 t1020)).setCell ⟨gb1027, 4, none⟩ (.int .i64 t1021)).setCell ⟨gb1027, 5, none⟩ (.int .i64 t1022)).setCell ⟨gb1027, 6, none⟩ (.int .i64 t1023)).setCell ⟨gb1027, 7, none⟩ (.int .i64 t1024)).setCell ⟨gb1027, 8, none⟩ (.int .i64 t1025)).setCell ⟨gb1027, 9, none⟩ (.int .i64 t1026)) w.heap.size (fun k_ => some k_ ≠ (.slice (some ad1016) t1012.length co6 : Value).ownBlock) (.slice A1016_0 (rd_L1 t1012 x17_1).length c1016_0) (rd_L1 t1012 x17_1)) := ⟨by (with_reducible repeat (first | apply Kd.R_alloc | apply Kd.R_drewN | apply Kd.R_drew)); exact Kd.R_mono (Kd.R_far (p := ⟨gb1027, 9, none⟩) (Kd.R_far (p := ⟨gb1027, 8, none⟩) (Kd.R_far (p := ⟨gb1027, 7, none⟩) (Kd.R_far (p := ⟨gb1027, 6, none⟩) (Kd.R_far (p := ⟨gb1027, 5, none⟩) (Kd.R_far (p := ⟨gb1027, 4, none⟩) (Kd.R_far (p := ⟨gb1027, 3, none⟩) (Kd.R_far (p := ⟨gb1027, 2, none⟩) (Kd.R_far (p := ⟨gb1027, 1, none⟩) (Kd.R_far (p := ⟨gb1027, 0, none⟩) (Kd.R_types HL1016_0.out BK1027.out (by decide)) (fun _ hk => hk.2) (.int .i64 t1017)) (fun _ hk => hk.2) (.int .i64 t1018)) (fun _ hk => hk.2) (.int .i64 t1019)) (fun _ hk => hk.2) (.int .i64 t1020)) (fun _ hk => hk.2) (.int .i64 t1021)) (fun _ hk => hk.2) (.int .i64 t1022)) (fun _ hk => hk.2) (.int .i64 t1023)) (fun _ hk => hk.2) (.int .i64 t1024)) (fun _ hk => hk.2) (.int .i64 t1025)) (fun _ hk => hk.2) (.int .i64 t1026)) (fun _ hk => hk.1.2)⟩
              have n2_ : Aside0 (((((((((((w21.setCell ⟨gb1027, 0, none⟩ (.int .i64 t1017)).setCell ⟨gb1027, 1, none⟩ (.int .i64 t1018)).setCell ⟨gb1027, 2, none⟩ (.int .i64 t1019)).setCell ⟨gb1027, 3, none⟩ (.int .i64 t1020)).setCell ⟨gb1027, 4, none⟩ (.int .i64 t1021)).setCell ⟨gb1027, 5, none⟩ (.int .i64 t1022)).setCell ⟨gb1027, 6, none⟩ (.int .i64 t1023)).setCell ⟨gb1027, 7, none⟩ (.int .i64 t1024)).setCell ⟨gb1027, 8, none⟩ (.int .i64 t1025)).setCell ⟨gb1027, 9, none⟩ (.int .i64 t1026)).heap[gb1011]? = some (.cells #[.slice A0_0 l0_0.length c0_0] 28 (0, 0))) := ⟨by (with_reducible repeat (first | refine blk_drewN ?_ _ | refine blk_drew ?_ | refine blk_alloc ?_ _)); refine blk_far ?_ NB1011_1027.out _; (with_reducible repeat (first | refine blk_drewN ?_ _ | refine blk_drew ?_ | refine blk_alloc ?_ _)); refine blk_far ?_ NB1011_1027.out _; (with_reducible repeat (first | refine blk_drewN ?_ _ | refine blk_drew ?_ | refine blk_alloc ?_ _)); refine blk_far ?_ NB1011_1027.out _; (with_reducible repeat (first | refine blk_drewN ?_ _ | refine blk_drew ?_ | refine blk_alloc ?_ _)); refine blk_far ?_ NB1011_1027.out _; (with_reducible repeat (first | refine blk_drewN ?_ _ | refine blk_drew ?_ | refine blk_alloc ?_ _)); refine blk_far ?_ NB1011_1027.out _; (with_reducible repeat (first | refine blk_drewN ?_ _ | refine blk_drew ?_ | refine blk_alloc ?_ _)); refine blk_far ?_ NB1011_1027.out _; (with_reducible repeat (first | refine blk_drewN ?_ _ | refine blk_drew ?_ | refine blk_alloc ?_ _)); refine blk_far ?_ NB1011_1027.out _; (with_reducible repeat (first | refine blk_drewN ?_ _ | refine blk_drew ?_ | refine blk_alloc ?_ _)); refine blk_far ?_ NB1011_1027.out _; (with_reducible repeat (first | refine blk_drewN ?_ _ | refine blk_drew ?_ | refine blk_alloc ?_ _)); refine blk_far ?_ NB1011_1027.out _; (with_reducible repeat (first | refine blk_drewN ?_ _ | refine blk_drew ?_ | refine blk_alloc ?_ _)); refine blk_far ?_ NB1011_1027.out _; (with_reducible repeat (first | refine blk_drewN ?_ _ | refine blk_drew ?_ | refine blk_alloc ?_ _)); exact BK1011.out⟩
              have n3_ : Aside0 (((((((((((w21.setCell ⟨gb1027, 0, none⟩ (.int .i64 t1017)).setCell ⟨gb1027, 1, none⟩ (.int .i64 t1018)).setCell ⟨gb1027, 2, none⟩ (.int .i64 t1019)).setCell ⟨gb1027, 3, none⟩ (.int .i64 t1020)).setCell ⟨gb1027, 4, none⟩ (.int .i64 t1021)).setCell ⟨gb1027, 5, none⟩ (.int .i64 t1022)).setCell ⟨gb1027, 6, none⟩ (.int .i64 t1023)).setCell ⟨gb1027, 7, none⟩ (.int .i64 t1024)).setCell ⟨gb1027, 8, none⟩ (.int .i64 t1025)).setCell ⟨gb1027, 9, none⟩ (.int .i64 t1026)).heap[gb1027]? = some (.cells #[.int .i64 t1017, .int .i64 t1018, .int .i64 t1019, .int .i64 t1020, .int .i64 t1021, .int .i64 t1022, .int .i64 t1023, .int .i64 t1024, .int .i64 t1025, .int .i64 t1026] 58 (0, 0))) := ⟨by (with_reducible repeat (first | refine blk_drewN ?_ _ | refine blk_drew ?_ | refine blk_alloc ?_ _)); refine blk_put (cs := #[.int .i64 t1017, .int .i64 t1018, .int .i64 t1019, .int .i64 t1020, .int .i64 t1021, .int .i64 t1022, .int .i64 t1023, .int .i64 t1024, .int .i64 t1025, .int .i64 0]) ?_ 9 _ rfl; (with_reducible repeat (first | refine blk_drewN ?_ _ | refine blk_drew ?_ | refine blk_alloc ?_ _)); refine blk_put (cs := #[.int .i64 t1017, .int .i64 t1018, .int .i64 t1019, .int .i64 t1020, .int .i64 t1021, .int .i64 t1022, .int .i64 t1023, .int .i64 t1024, .int .i64 0, .int .i64 0]) ?_ 8 _ rfl; (with_reducible repeat (first | refine blk_drewN ?_ _ | refine blk_drew ?_ | refine blk_alloc ?_ _)); refine blk_put (cs := #[.int .i64 t1017, .int .i64 t1018, .int .i64 t1019, .int .i64 t1020, .int .i64 t1021, .int .i64 t1022, .int .i64 t1023, .int .i64 0, .int .i64 0, .int .i64 0]) ?_ 7 _ rfl; (with_reducible repeat (first | refine blk_drewN ?_ _ | refine blk_drew ?_ | refine blk_alloc ?_ _)); refine blk_put (cs := #[.int .i64 t1017, .int .i64 t1018, .int .i64 t1019, .int .i64 t1020, .int .i64 t1021, .int .i64 t1022, .int .i64 0, .int .i64 0, .int .i64 0, .int .i64 0]) ?_ 6 _ rfl; (with_reducible repeat (first | refine blk_drewN ?_ _ | refine blk_drew ?_ | refine blk_alloc ?_ _)); refine blk_put (cs := #[.int .i64 t1017, .int .i64 t1018, .int .i64 t1019, .int .i64 t1020, .int .i64 t1021, .int .i64 0, .int .i64 0, .int .i64 0, .int .i64 0, .int .i64 0]) ?_ 5 _ rfl; (with_reducible repeat (first | refine blk_drewN ?_ _ | refine blk_drew ?_ | refine blk_alloc ?_ _)); refine blk_put (cs := #[.int .i64 t1017, .int .i64 t1018, .int .i64 t1019, .int .i64 t1020, .int .i64 0, .int .i64 0, .int .i64 0, .int .i64 0, .int .i64 0, .int .i64 0]) ?_ 4 _ rfl; (with_reducible repeat (first | refine blk_drewN ?_ _ | refine blk_drew ?_ | refine blk_alloc ?_ _)); refine blk_put (cs := #[.int .i64 t1017, .int .i64 t1018, .int .i64 t1019, .int .i64 0, .int .i64 0, .int .i64 0, .int .i64 0, .int .i64 0, .int .i64 0, .int .i64 0]) ?_ 3 _ rfl; (with_reducible repeat (first | refine blk_drewN ?_ _ | refine blk_drew ?_ | refine blk_alloc ?_ _)); refine blk_put (cs := #[.int .i64 t1017, .int .i64 t1018, .int .i64 0, .int .i64 0, .int .i64 0, .int .i64 0, .int .i64 0, .int .i64 0, .int .i64 0, .int .i64 0]) ?_ 2 _ rfl; (with_reducible repeat (first | refine blk_drewN ?_ _ | refine blk_drew ?_ | refine blk_alloc ?_ _)); refine blk_put (cs := #[.int .i64 t1017, .int .i64 0, .int .i64 0, .int .i64 0, .int .i64 0, .int .i64 0, .int .i64 0, .int .i64 0, .int .i64 0, .int .i64 0]) ?_ 1 _ rfl; (with_reducible repeat (first | refine blk_drewN ?_ _ | refine blk_drew ?_ | refine blk_alloc ?_ _)); refine blk_put (cs := #[.int .i64 0, .int .i64 0, .int .i64 0, .int .i64 0, .int .i64 0, .int .i64 0, .int .i64 0, .int .i64 0, .int .i64 0, .int .i64 0]) ?_ 0 _ rfl; (with_reducible repeat (first | refine blk_drewN ?_ _ | refine blk_drew ?_ | refine blk_alloc ?_ _)); exact BK1027.out⟩
              have n4_ : Aside0 (Below w.heap.size w ((((((((((w21.setCell ⟨gb1027, 0, none⟩ (.int .i64 t1017)).setCell ⟨gb1027, 1, none⟩ (.int .i64 t1018)).setCell ⟨gb1027, 2, none⟩ (.int .i64 t1019)).setCell ⟨gb1027, 3, none⟩ (.int .i64 t1020)).setCell ⟨gb1027, 4, none⟩ (.int .i64 t1021)).setCell ⟨gb1027, 5, none⟩ (.int .i64 t1022)).setCell ⟨gb1027, 6, none⟩ (.int .i64 t1023)).setCell ⟨gb1027, 7, none⟩ (.int .i64 t1024)).setCell ⟨gb1027, 8, none⟩ (.int .i64 t1025)).setCell ⟨gb1027, 9, none⟩ (.int .i64 t1026))) := ⟨by repeat (first | (with_reducible first | exact HB.out | apply below_alloc | apply pw_below_drewN | apply below_drew1 | refine below_set ?_ GE1011.out | refine below_set ?_ GE1027.out) | exact HB.out)⟩
              (try clear HO_15)
              (try clear HL1016_0)
              (try clear BK1011)
              (try clear BK1027)
              (try clear HB)
              generalize ((((((((((w21.setCell ⟨gb1027, 0, none⟩ (.int .i64 t1017)).setCell ⟨gb1027, 1, none⟩ (.int .i64 t1018)).setCell ⟨gb1027, 2, none⟩ (.int .i64 t1019)).setCell ⟨gb1027, 3, none⟩ (.int .i64 t1020)).setCell ⟨gb1027, 4, none⟩ (.int .i64 t1021)).setCell ⟨gb1027, 5, none⟩ (.int .i64 t1022)).setCell ⟨gb1027, 6, none⟩ (.int .i64 t1023)).setCell ⟨gb1027, 7, none⟩ (.int .i64 t1024)).setCell ⟨gb1027, 8, none⟩ (.int .i64 t1025)).setCell ⟨gb1027, 9, none⟩ (.int .i64 t1026)) = w24 at n0_ n1_ n2_ n3_ n4_ ⊢
              have HO_15 := n0_
              have HL1016_0 := n1_
              have BK1011 := n2_
              have BK1027 := n3_
              have HB := n4_
              clear n0_ n1_ n2_ n3_ n4_
              have n0_ := Aside0.mk (Kd.S_drew HO_15.out)
              have n1_ := Aside0.mk (Kd.R_drew HL1016_0.out)
              have n2_ := Aside0.mk (blk_drew BK1011.out)
              have n3_ := Aside0.mk (blk_drew BK1027.out)
              have n4_ := Aside0.mk (below_drew1 HB.out)
              clear HO_15
              clear HL1016_0
              clear BK1011
              clear BK1027
              clear HB
              have HO_15 := n0_
              have HL1016_0 := n1_
              have BK1011 := n2_
              have BK1027 := n3_
              have HB := n4_
              clear n0_ n1_ n2_ n3_ n4_
              refine start_ (n := 5) (S := fun w' => w'.cell? ⟨gb1011, 0, none⟩ = some (.slice A0_0 l0_0.length c0_0) ∧ w'.cell? ⟨gb1027, 0, none⟩ = some (.int .i64 t1017) ∧ w'.cell? ⟨gb1027, 1, none⟩ = some (.int .i64 t1018) ∧ w'.cell? ⟨gb1027, 2, none⟩ = some (.int .i64 t1019) ∧ w'.cell? ⟨gb1027, 3, none⟩ = some (.int .i64 t1020) ∧ w'.cell? ⟨gb1027, 4, none⟩ = some (.int .i64 t1021) ∧ w'.cell? ⟨gb1027, 5, none⟩ = some (.int .i64 t1022) ∧ w'.cell? ⟨gb1027, 6, none⟩ = some (.int .i64 t1023) ∧ w'.cell? ⟨gb1027, 7, none⟩ = some (.int .i64 t1024) ∧ w'.cell? ⟨gb1027, 8, none⟩ = some (.int .i64 t1025) ∧ w'.cell? ⟨gb1027, 9, none⟩ = some (.int .i64 t1026)) (ds := []) #[false, false, false, false, false] (by kernel_rfl) rfl rfl ⟨(blk_cell BK1011.out 0).trans rfl, (blk_cell BK1027.out 0).trans rfl, (blk_cell BK1027.out 1).trans rfl, (blk_cell BK1027.out 2).trans rfl, (blk_cell BK1027.out 3).trans rfl, (blk_cell BK1027.out 4).trans rfl, (blk_cell BK1027.out 5).trans rfl, (blk_cell BK1027.out 6).trans rfl, (blk_cell BK1027.out 7).trans rfl, (blk_cell BK1027.out 8).trans rfl, (blk_cell BK1027.out 9).trans rfl⟩ (fun hHeld => ?_)
              generalize w24.drew = w25 at HO_15 HL1016_0 BK1011 BK1027 HB hHeld ⊢
              refine take_ (i := 0) (N := some 23) (v := ?_) (a' := ?_) #[true, false, false, false, false] rfl rfl (by kernel_rfl) (fun _ _ _ h => h) (Or.inl ⟨by rfl, ?_⟩) hHeld ?_ ?_
              rotate_left
              · rintro w' ⟨s0, s1, s2, s3, s4, s5, s6, s7, s8, s9, s10⟩
                go_simp
                with_reducible rfl
              rotate_left
              · simp only [Act.put, List.setIfInBounds_toArray, List.set_cons_zero, List.set_cons_succ, i64_w, i32_w]
                rfl
              refine take_ (i := 1) (N := some 24) (v := ?_) (a' := ?_) #[true, true, false, false, false] rfl rfl (by kernel_rfl) (fun _ _ _ h => h) (Or.inl ⟨by rfl, ?_⟩) hHeld ?_ ?_
              rotate_left
              · rintro w' ⟨s0, s1, s2, s3, s4, s5, s6, s7, s8, s9, s10⟩
                go_simp
                with_reducible rfl
              rotate_left
              · simp only [Act.put, List.setIfInBounds_toArray, List.set_cons_zero, List.set_cons_succ, i64_w, i32_w]
                rfl
              refine take_ (i := 3) (N := some 26) (v := ?_) (a' := ?_) #[true, true, false, true, false] rfl rfl (by kernel_rfl) (fun _ _ _ h => h) (Or.inl ⟨by rfl, ?_⟩) hHeld ?_ ?_
              rotate_left
              · rintro w' ⟨s0, s1, s2, s3, s4, s5, s6, s7, s8, s9, s10⟩
                go_simp
                with_reducible rfl
              rotate_left
              · simp only [Act.put, List.setIfInBounds_toArray, List.set_cons_zero, List.set_cons_succ, i64_w, i32_w]
                rfl
              refine one_ (i := 2) (N := some 25) #[true, true, true, true, false] rfl rfl (by kernel_rfl) (by decide) (fun K hK => ?_)
              refine goes_ Try.func64 (by kernel_rfl) rfl #[.agg #[.slice A0_0 l0_0.length c0_0], .agg #[.int .i64 t1017, .int .i64 t1018, .int .i64 t1019, .int .i64 t1020, .int .i64 t1021, .int .i64 t1022, .int .i64 t1023, .int .i64 t1024, .int .i64 t1025, .int .i64 t1026]] (by rfl) rfl rfl (by (try simp only [List.map_toArray, List.map_cons, List.map_nil]); first | done | rfl | (simp only [List.length_drop, List.length_take]; rfl)) ?_
              with_reducible refine (impl_Poset_evacuated.calls k1 _ _ l0_0 t1017 t1018 t1019 t1020 t1021 t1022 t1023 t1024 t1025 t1026 t1028 t1029 t1030 t1031 t1032 t1033 t1034 t1035 t1036 t1037 _ ?side1 ?side2 A11.out).mono ?_
              (case side1 => repeat (first | exact (Kd.C_below HR0_0.out HB.out) | (with_reducible refine Kd.C_alloc ?_ _) | (with_reducible refine Kd.C_drewN ?_ _) | (with_reducible refine Kd.C_drew ?_)))
              (case side2 => exact HC0_0.out)
              rintro e w26 ⟨rfl, hb⟩
              refine ⟨_, rfl, ?_⟩
              have n0_ := Aside0.mk (Kd.S_below (by (with_reducible repeat (first | apply Kd.S_alloc | apply Kd.S_drewN | apply Kd.S_drew)); exact HO_15.out) hb)
              have n1_ := Aside0.mk (Kd.R_below (by (with_reducible repeat (first | apply Kd.R_alloc | apply Kd.R_drewN | apply Kd.R_drew)); exact HL1016_0.out) hb)
              have n2_ := Aside0.mk (blk_below (g := gb1011) (o := .cells #[.slice A0_0 l0_0.length c0_0] 28 (0, 0)) (by (with_reducible repeat (first | refine blk_drewN ?_ _ | refine blk_drew ?_ | refine blk_alloc ?_ _)); exact BK1011.out) hb)
              have n3_ := Aside0.mk (blk_below (g := gb1027) (o := .cells #[.int .i64 t1017, .int .i64 t1018, .int .i64 t1019, .int .i64 t1020, .int .i64 t1021, .int .i64 t1022, .int .i64 t1023, .int .i64 t1024, .int .i64 t1025, .int .i64 t1026] 58 (0, 0)) (by (with_reducible repeat (first | refine blk_drewN ?_ _ | refine blk_drew ?_ | refine blk_alloc ?_ _)); exact BK1027.out) hb)
              have n4_ := Aside0.mk (below_step (by repeat (first | (with_reducible first | exact HB.out | apply below_alloc | apply pw_below_drewN | apply below_drew1 | refine below_set ?_ GE1011.out | refine below_set ?_ GE1027.out) | exact HB.out)) hb)
              clear HO_15
              clear HL1016_0
              clear BK1011
              clear BK1027
              clear HB
              have HO_15 := n0_
              have HL1016_0 := n1_
              have BK1011 := n2_
              have BK1027 := n3_
              have HB := n4_
              clear n0_ n1_ n2_ n3_ n4_
              (try clear hb)
              (try clear hb2)
              (try clear hk)
              (try clear hi)
              refine hK.out _ _ ⟨(blk_cell BK1011.out 0).trans rfl, (blk_cell BK1027.out 0).trans rfl, (blk_cell BK1027.out 1).trans rfl, (blk_cell BK1027.out 2).trans rfl, (blk_cell BK1027.out 3).trans rfl, (blk_cell BK1027.out 4).trans rfl, (blk_cell BK1027.out 5).trans rfl, (blk_cell BK1027.out 6).trans rfl, (blk_cell BK1027.out 7).trans rfl, (blk_cell BK1027.out 8).trans rfl, (blk_cell BK1027.out 9).trans rfl⟩ (fun hHeld => ?_)
              clear hK K
              refine norm_ (a' := ?_) ?_ ?_
              rotate_left
              · show Act.put _ (some 25) _ = _
                simp only [Act.put, List.setIfInBounds_toArray, List.set_cons_zero, List.set_cons_succ, i64_w, i32_w]
                rfl
              refine pure_ (i := 4) (N := some 27) (v := ?_) (a' := ?_) #[true, true, true, true, true] rfl rfl (by kernel_rfl) (fun _ _ _ h => h) (Or.inl ⟨by rfl, ?_⟩) ?_ ?_
              rotate_left
              · intro w'
                go_simp
                with_reducible rfl
              rotate_left
              · simp only [Act.put, List.setIfInBounds_toArray, List.set_cons_zero, List.set_cons_succ, i64_w, i32_w]
                rfl
              refine done_ (by kernel_rfl) ?_
              try go_wp2
              go_roundg k1
              case measure => have := HK1.out; omega
              case rel => exact ⟨(x6_1), (wrap64 (x17_1 + 1)), (by first | rfl | (simp; done) | (simp [*]; done)), (by first | rfl | (simp; done) | (simp [*]; done)), H', ⟨by have := HK1.out; omega⟩, ⟨by (with_reducible repeat (first | apply Kd.S_alloc | apply Kd.S_drewN | apply Kd.S_drew)); exact HO_15.out⟩, ⟨by (with_reducible repeat (first | refine blk_drewN ?_ _ | refine blk_drew ?_ | refine blk_alloc ?_ _)); exact BK1011.out⟩, ⟨by repeat (first | (with_reducible first | exact HB.out | apply below_alloc | apply pw_below_drewN | apply below_drew1 | refine below_set ?_ GE1011.out | refine below_set ?_ GE1027.out) | exact HB.out)⟩⟩
          · rw [if_neg c9] at H
            exact absurd H (by simp)
        · rw [if_neg c8] at H
          exact absurd H (by simp)
      · rw [if_neg c7] at H
        have c7b0 : decide (x17_1 < (t1012.length : Int)) = false := decide_eq_false c7
        clear c7
        simp only [Option.some.injEq, Prod.mk.injEq] at H
        obtain ⟨rfl, rfl⟩ := H
        go_wp2
        go_ret2
        exact ⟨by first | rfl | (simp [errW_none, errW_some] <;> rfl) | (simp [*, errW_none, errW_some] <;> rfl), by repeat (first | (with_reducible first | exact HB.out | apply below_alloc | apply pw_below_drewN | apply below_drew1 | refine below_set ?_ GE1011.out) | exact HB.out)⟩

end Go.Proofs.Ytjahclncpgllmaa.F
end

section
namespace Go.Proofs.Ytjahclncpgllmaa.Q
open Go.RowKit Go.Proofs.YtjahclncpgllmaaW.PrintWords Go.Proofs.Ytjahclncpgllmaa.F
set_option linter.unusedVariables false
/-- All orders from a set on. -/
def allW (p : List Int) : Nat → Nat → List (List Nat)
  | 0, _ => [[]]
  | d + 1, s => (nextN p s).flatMap fun e => (allW p d (s ||| 2 ^ e)).map (e :: ·)
theorem pick_range (p : List Int) (s : Nat) (g : Nat → Nat → List Nat) : ∀ l : List Nat,
    (List.range (sumL (l.map fun e => ways p (s ||| 2 ^ e)))).map (fun r => (pick p s l r).1 :: g (s ||| 2 ^ (pick p s l r).1) (pick p s l r).2) = l.flatMap fun e => (List.range (ways p (s ||| 2 ^ e))).map fun r => e :: g (s ||| 2 ^ e) r := by
  intro l
  induction l with
  | nil => rfl
  | cons e l ih =>
    simp only [List.map_cons, sumL, List.flatMap_cons]
    rw [List.range_add, List.map_append, List.map_map, ← ih]
    congr 1
    · refine List.map_congr_left fun r hr => ?_
      have hr := List.mem_range.1 hr
      simp only [pick, if_pos hr]
    · refine List.map_congr_left fun r hr => ?_
      simp only [Function.comp, pick]
      rw [if_neg (by omega), Nat.add_sub_cancel_left]
theorem allW_eq {p : List Int} (hp : PO p) : ∀ (d s : Nat), s < 2 ^ p.length → pcard p.length s + d = p.length → allW p d s = (List.range (ways p s)).map (linW p d s) := by
  intro d
  induction d with
  | zero =>
    intro s hs hc
    rw [all_of_pcard hs (by omega), ways_all]
    rfl
  | succ d ih =>
    intro s hs hc
    have hall : s ≠ allN p := by
      intro e
      rw [e, pcard_all] at hc; omega
    rw [ways_step hs hall]
    have h := pick_range p s (linW p d) (nextN p s)
    refine Eq.trans ?_ h.symm
    unfold allW
    rw [List.flatMap_def, List.flatMap_def]
    congr 1
    refine List.map_congr_left fun e he => ?_
    obtain ⟨_, m1, m2, _⟩ := mem_nextN.1 he
    rw [ih _ (or_lt hs (pow_lt_pow m1)) (by rw [pcard_add m1 m2]; omega), List.map_map]
    rfl
theorem allW_len {p : List Int} : ∀ (d s : Nat), ∀ w ∈ allW p d s, w.length = d := by
  intro d
  induction d with
  | zero => intro s w hw; unfold allW at hw; rw [List.mem_singleton.1 hw]; rfl
  | succ d ih =>
    intro s w hw
    unfold allW at hw
    obtain ⟨e, _, hw⟩ := List.mem_flatMap.1 hw
    obtain ⟨v, hv, rfl⟩ := List.mem_map.1 hw
    rw [List.length_cons, ih _ _ hv]
theorem few_row_ev {g : Nat → Int → List Int → Option (List (List Int))} {p : List Int} {d s : Nat} {w : List Int} (hw : w.length ≤ 1000) (hs : s < 2 ^ 61) : ∀ l : List Nat, (∀ e ∈ l, e < 61 ∧ Ev (fun k => g k ((s ||| 2 ^ e : Nat) : Int) (w ++ [(e : Int)])) ((allW p d (s ||| 2 ^ e)).map fun v => (w ++ [(e : Int)]) ++ ints v)) →
    Ev (fun k => few_row (g k) (s : Int) w (ints l)) ((l.flatMap fun e => (allW p d (s ||| 2 ^ e)).map (e :: ·)).map fun v => w ++ ints v) := by
  intro l
  induction l with
  | nil => intro _; exact Ev.ret rfl
  | cons e l ih =>
    intro h
    obtain ⟨he, hg⟩ := h e List.mem_cons_self
    have h2 := ih (fun x hx => h x (List.mem_cons_of_mem _ hx))
    have e1 : ints (e :: l) = (e : Int) :: ints l := rfl
    rw [e1]
    simp only [few_row]
    refine Ev.yes ⟨by omega, hw⟩ ?_
    rw [shlN (by omega), bits_orN (Nat.lt_trans hs (by decide)) (Nat.pow_lt_pow_right (by decide) (by omega))]
    refine Ev.bind hg (Ev.bind h2 (Ev.ret ?_))
    rw [List.flatMap_cons, List.map_append, List.map_map]
    congr 1
    refine List.map_congr_left fun v _ => ?_
    show (w ++ [(e : Int)]) ++ ints v = w ++ ints (e :: v)
    rw [List.append_assoc]; rfl
theorem few_put_ev {p : List Int} (hp : PO p) : ∀ (d s : Nat) (w : List Int), s < 2 ^ p.length → idealB p s = true → pcard p.length s = w.length → w.length + d = p.length →
    Ev (fun k => few_put k p (k + (d + 1)) (s : Int) w) ((allW p d s).map fun v => w ++ ints v) := by
  have hn := hp.small
  intro d
  induction d with
  | zero =>
    intro s w hs hid hc hd
    have hall : s = allN p := all_of_pcard hs (by omega)
    simp only [few_put]
    refine Ev.call (all_eq (by omega)) (Ev.yes (show ((s : Nat) : Int) = ((allN p : Nat) : Int) from by rw [hall]) (Ev.yes (by omega) (Ev.ret ?_)))
    simp [allW, ints]
  | succ d ih =>
    intro s w hs hid hc hd
    have hall : s ≠ allN p := by
      intro e
      rw [e, pcard_all] at hc; omega
    simp only [few_put]
    refine Ev.call (all_eq (by omega)) (Ev.no (show ¬ (((s : Nat) : Int) = ((allN p : Nat) : Int)) from fun h => hall (by exact_mod_cast h)) (Ev.bind (next_ev hp hs) (Ev.yes ?_ ?_)))
    · rw [ints_len]
      have : (nextN p s).length ≤ 10 := by unfold nextN; exact Nat.le_trans (List.length_filter_le _ _) (by simp)
      omega
    · have := few_row_ev (g := fun k => few_put k p (k + (d + 1))) (p := p) (d := d) (w := w) (by omega) (lt_pow hs (by omega)) (nextN p s) (fun e he => by
        obtain ⟨_, m1, m2, _⟩ := mem_nextN.1 he
        refine ⟨by omega, ?_⟩
        exact ih (s ||| 2 ^ e) (w ++ [(e : Int)]) (or_lt hs (pow_lt_pow m1)) (idealB_add hp hid he) (by rw [pcard_add m1 m2, hc, List.length_append, List.length_singleton]) (by rw [List.length_append, List.length_singleton]; omega))
      exact this
theorem few_put_monoF (p : List Int) (k : Nat) : ∀ d s w, LeO (few_put k p d s w) (few_put (k + 1) p d s w)
  | 0, s, w => fun r h => by cases h
  | d + 1, s, w => by
    unfold few_put
    exact LeO.bind (LeO.refl _) (fun t => LeO.ite (LeO.refl _) (LeO.bind (impl_Poset_next.mono _ _ _) (fun l => LeO.ite (few_row_mono (fun s w => few_put_monoF p k d s w) s w l) (LeO.refl _))))
/-- All orders, the first ranks first. -/
def rowsTo (p : List Int) (r : Nat) : List (List Int) := (List.range r).map fun r => ints (linW p p.length 0 r)
theorem rowsTo_len (p : List Int) (r : Nat) : (rowsTo p r).length = r := by simp [rowsTo]
theorem rowsTo_mem {p : List Int} {r : Nat} : ∀ q ∈ rowsTo p r, q.length = p.length := by
  intro q hq
  obtain ⟨x, _, rfl⟩ := List.mem_map.1 hq
  rw [ints_len, linW_len]
theorem few_all_ev {p : List Int} (hp : PO p) : Ev (fun k => few_put k p k 0 []) (rowsTo p (ways p 0)) := by
  have h := few_put_ev hp p.length 0 [] (Nat.two_pow_pos _) (idealB_zero p) (by rw [pcard_zero]; rfl) (by simp)
  rw [allW_eq hp p.length 0 (Nat.two_pow_pos _) (by rw [pcard_zero]; omega), List.map_map] at h
  obtain ⟨K, h⟩ := h
  refine ⟨K + (p.length + 1), fun k hk => ?_⟩
  have h1 := h (k - (p.length + 1)) (by omega)
  dsimp only at h1
  rw [show k - (p.length + 1) + (p.length + 1) = k by omega] at h1
  have h2 := at_rounds (g := fun F => few_put F p k 0 []) (fun F => few_put_monoF p F k 0 []) (show k - (p.length + 1) ≤ k by omega) h1
  refine Eq.trans h2 ?_
  rfl
theorem first_way {p : List Int} (hp : PO p) : rd (Wl p 0) 0 = ((ways p 0 : Nat) : Int) := by
  refine (rdN (Wl p 0) 0).trans ?_
  rw [Wl_get p 0 (Nat.two_pow_pos _)]; unfold wayAt; rw [if_pos (Nat.le_refl _), if_pos (idealB_zero p)]
theorem first_cnt {p : List Int} (hp : PO p) : rd (Cl p 0) 0 = ((ways p 0 : Nat) : Int) := (rdN (Cl p 0) 0).trans (Cl_at (Nat.two_pow_pos _))
/-- The program's list. -/
theorem few_ev (p : List Int) : Ev (fun k => impl_few.f k p) (if isPo p = true ∧ ways p 0 ≤ 500 then (rowsTo p (ways p 0), true) else ([], false)) := by
  unfold impl_few.f
  refine Ev.bind (IsPoset_ev p) ?_
  cases hpo : isPo p with
  | false => exact Ev.no (by simp) (Ev.ret (by simp))
  | true =>
    have hP := (isPo_iff p).1 hpo
    have h2 : 0 < 2 ^ p.length := Nat.two_pow_pos _
    refine Ev.yes rfl (Ev.bind (ways_table hP) (Ev.yes (by rw [Wl_len]; omega) ?_))
    rw [first_way hP]
    by_cases hw : ways p 0 ≤ 500
    · rw [if_pos ⟨rfl, hw⟩]
      exact Ev.no (by omega) (Ev.bind (few_all_ev hP) (Ev.yes (by rw [rowsTo_len]; omega) (Ev.now _)))
    · rw [if_neg (fun h => hw h.2)]
      exact Ev.yes (by omega) (Ev.now _)
/-- The reference's list. -/
theorem liAll_run {p : List Int} (hp : PO p) (hw : ways p 0 ≤ 500) : ∀ r, r ≤ ways p 0 → Ev (fun k => spec_liAll.l0 k (Cl p 0) (rowsTo p r) (r : Int) p) (rowsTo p (ways p 0), true) := by
  have h2 : 0 < 2 ^ p.length := Nat.two_pow_pos _
  refine downTo _ ?_ ?_
  · refine Ev.step (by intro k; simp only [spec_liAll.l0]; rfl) (Ev.yes (by rw [Cl_len]; omega) ?_)
    rw [first_cnt hp]
    exact Ev.no (by omega) (Ev.now _)
  · intro r hr ih
    refine Ev.step (by intro k; simp only [spec_liAll.l0]; rfl) (Ev.yes (by rw [Cl_len]; omega) ?_)
    rw [first_cnt hp]
    refine Ev.yes (by omega) (Ev.bind (liWith_ev hp hr) (Ev.yes (by rw [rowsTo_len]; omega) ?_))
    rw [wid (by omega) (by omega)]
    have e : rowsTo p r ++ [ints (linW p p.length 0 r)] = rowsTo p (r + 1) := by unfold rowsTo; rw [List.range_succ, List.map_append]; rfl
    rw [e]
    exact ih
theorem liAll_ev {p : List Int} (hp : PO p) : Ev (fun k => spec_liAll.f k p) (if ways p 0 ≤ 500 then (rowsTo p (ways p 0), true) else ([], false)) := by
  unfold spec_liAll.f
  have h2 : 0 < 2 ^ p.length := Nat.two_pow_pos _
  refine Ev.bind (liCounts_ev hp) (Ev.yes (by rw [Cl_len]; omega) ?_)
  rw [first_cnt hp]
  by_cases hw : ways p 0 ≤ 500
  · rw [if_pos hw]
    exact Ev.no (by omega) (liAll_run hp hw 0 (Nat.zero_le _))
  · rw [if_neg hw]
    exact Ev.yes (by omega) (Ev.now _)
end Go.Proofs.Ytjahclncpgllmaa.Q
end

section
namespace Go.Proofs.Ytjahclncpgllmaa.F
open Go.RowKit Go.Proofs.YtjahclncpgllmaaW.PrintWords Go.Proofs.YtjahclncpgllmaaW.PrintLast Go.Proofs.YtjahclncpgllmaaW.PrintMore
set_option linter.unusedVariables false
set_option linter.unusedSimpArgs false
theorem laws_FnExactSelfEvacuated.belowD {w w' : World} (h : Drawn0 w w') : Below w.heap.size w w' := by
  obtain ⟨m, rfl⟩ := h
  exact pw_below_drewN (Below.refl _ _) m
set_option maxHeartbeats 8000000 in
set_option maxRecDepth 100000 in
theorem laws_FnExactSelfEvacuated.calls0 (k k1 : Nat) (A0 : Option Addr) (c0 : Nat) (l0 : List Int) (z1 : Int) (w : World) (hr0 : Kd.C (Kd.int .i64) w A0 l0.length l0) (hc0 : l0.length ≤ c0) (hy0_ : laws_szPoset.f l0 1048576 = some z1) (hx : decide (z1 < 0) = true) :
    Calls Try.prog 14 #[.agg #[.slice A0 l0.length c0]] w fun e w' => e = .returned (.bool true) ∧ Below w.heap.size w w' := by
  have HR0 := Aside0.mk hr0
  have HC0 := Aside0.mk hc0
  clear hr0 hc0
  have hy0 := Aside0.mk hy0_
  clear hy0_
  have HT0 := Aside0.mk (Below.refl w.heap.size w)
  go_enter Try.func14, Try.ntmps14
  go_wp2_with (first | ((with_reducible refine gate_dst (N := 1) rfl ?_); refine box_event ?hg (N := 1) ?hd (cs := #[.slice A0 l0.length c0]) (t := 24) ?hr ?_; (case hd => rfl); (case hg => rfl); (case hr => first | (go_simp; done) | (go_simp; rfl)); intro g1 hg_ w1 hbox_ hb_; have HB1 := Aside0.mk hb_; have HZ1 : Aside0 (w.heap.size ≤ w1.heap.size) := ⟨hb_.size⟩; have HT1 := Aside0.mk (HT0.out.trans (Below.mono hb_ HT0.out.size)); have HG1 : Aside0 (w.heap.size ≤ g1 ∧ g1 < w1.heap.size) := ⟨Nat.le_of_eq hg_.symm, blk_lt hbox_⟩; have HBK_ := Aside0.mk hbox_; clear hb_ hbox_ hg_; have HBK1 := HBK_; clear HBK_; have hcz1 : w1.cell? ⟨g1, 0, none⟩ = some (.slice A0 l0.length c0) := (blk_cell HBK1.out 0).trans rfl; have hfz1 := blk_frozen HBK1.out 0))
  have hcall_ := laws_szPoset.calls _ _ l0 1048576 z1 _ (Kd.C_below HR0.out HT1.out) HC0.out hy0.out
  refine hcall_.mono ?_
  clear hcall_ 
  rintro e w2 ⟨rfl, hb_⟩
  have HB2 := Aside0.mk hb_
  have HZ2 : Aside0 (w1.heap.size ≤ w2.heap.size) := ⟨hb_.size⟩
  have HT2 := Aside0.mk (HT1.out.trans (Below.mono hb_ HT1.out.size))
  clear hb_
  have n_ := Aside0.mk (blk_below HBK1.out HB2.out)
  clear HBK1 hcz1
  have HBK1 := n_
  clear n_
  have hcz1 : w2.cell? ⟨g1, 0, none⟩ = some (.slice A0 l0.length c0) := (blk_cell HBK1.out 0).trans rfl
  go_wp2
  go_ret
  exact ⟨by first | rfl | (simp; done) | (simp [*]; done), by repeat (first | (with_reducible first | exact HT2.out | apply below_alloc | apply pw_below_drewN | apply below_drew1) | exact HT2.out)⟩
set_option maxHeartbeats 8000000 in
set_option maxRecDepth 100000 in
theorem laws_FnExactSelfEvacuated.calls1 (k k1 : Nat) (A0 : Option Addr) (c0 : Nat) (l0 : List Int) (z1 : Int) (v2 : Int) (v3 : Bool) (w : World) (hr0 : Kd.C (Kd.int .i64) w A0 l0.length l0) (hc0 : l0.length ≤ c0) (hy0_ : laws_szPoset.f l0 1048576 = some z1) (hy1 : decide (z1 < 0) = false) (hy2_ : laws_toPoset.f k1 l0 = some l0) (hy3_ : spec_SelfEvacuated.f k l0 = some (v2, v3)) (hy4_ : impl_SelfEvacuated.f k l0 = some (v2, v3)) (hy5_ : laws_eqPoset.f k1 l0 l0 = some true) :
    Calls Try.prog 14 #[.agg #[.slice A0 l0.length c0]] w fun e w' => e = .returned (.bool true) ∧ Below w.heap.size w w' := by
  have HR0 := Aside0.mk hr0
  have HC0 := Aside0.mk hc0
  clear hr0 hc0
  have hy0 := Aside0.mk hy0_
  clear hy0_
  have hy2 := Aside0.mk hy2_
  clear hy2_
  have hy3 := Aside0.mk hy3_
  clear hy3_
  have hy4 := Aside0.mk hy4_
  clear hy4_
  have hy5 := Aside0.mk hy5_
  clear hy5_
  have HT0 := Aside0.mk (Below.refl w.heap.size w)
  go_enter Try.func14, Try.ntmps14
  go_wp2_with (first | ((with_reducible refine gate_dst (N := 1) rfl ?_); refine box_event ?hg (N := 1) ?hd (cs := #[.slice A0 l0.length c0]) (t := 24) ?hr ?_; (case hd => rfl); (case hg => rfl); (case hr => first | (go_simp; done) | (go_simp; rfl)); intro g1 hg_ w1 hbox_ hb_; have HB1 := Aside0.mk hb_; have HZ1 : Aside0 (w.heap.size ≤ w1.heap.size) := ⟨hb_.size⟩; have HT1 := Aside0.mk (HT0.out.trans (Below.mono hb_ HT0.out.size)); have HG1 : Aside0 (w.heap.size ≤ g1 ∧ g1 < w1.heap.size) := ⟨Nat.le_of_eq hg_.symm, blk_lt hbox_⟩; have HBK_ := Aside0.mk hbox_; clear hb_ hbox_ hg_; have HBK1 := HBK_; clear HBK_; have hcz1 : w1.cell? ⟨g1, 0, none⟩ = some (.slice A0 l0.length c0) := (blk_cell HBK1.out 0).trans rfl; have hfz1 := blk_frozen HBK1.out 0))
  have hcall_ := laws_szPoset.calls _ _ l0 1048576 z1 _ (Kd.C_below HR0.out HT1.out) HC0.out hy0.out
  refine hcall_.mono ?_
  clear hcall_ 
  rintro e w2 ⟨rfl, hb_⟩
  have HB2 := Aside0.mk hb_
  have HZ2 : Aside0 (w1.heap.size ≤ w2.heap.size) := ⟨hb_.size⟩
  have HT2 := Aside0.mk (HT1.out.trans (Below.mono hb_ HT1.out.size))
  clear hb_
  have n_ := Aside0.mk (blk_below HBK1.out HB2.out)
  clear HBK1 hcz1
  have HBK1 := n_
  clear n_
  have hcz1 : w2.cell? ⟨g1, 0, none⟩ = some (.slice A0 l0.length c0) := (blk_cell HBK1.out 0).trans rfl
  go_wp2_with fail
  have hcall_ := laws_toPoset.calls k1 _ _ l0 l0 _ (Kd.C_below HR0.out HT2.out) HC0.out hy2.out
  refine hcall_.mono ?_
  clear hcall_ 
  rintro e w3 ⟨v1x, rfl, hx1_, hb_⟩
  have HB3 := Aside0.mk hb_
  have HZ3 : Aside0 (w2.heap.size ≤ w3.heap.size) := ⟨hb_.size⟩
  have HT3 := Aside0.mk (HT2.out.trans (Below.mono hb_ HT2.out.size))
  clear hb_
  have n_ := Aside0.mk (blk_below HBK1.out HB3.out)
  clear HBK1 hcz1
  have HBK1 := n_
  clear n_
  have hcz1 : w3.cell? ⟨g1, 0, none⟩ = some (.slice A0 l0.length c0) := (blk_cell HBK1.out 0).trans rfl
  have HX1 := Aside0.mk (Kd.R_lower (Kd.R_mono (ok' := fun k_ => w2.heap.size ≤ k_ ∧ k_ < w3.heap.size) (Kd.R_bound hx1_) (fun k_ h_ => ⟨h_.2.1, h_.2.2.1⟩)) HT2.out.size)
  clear hx1_
  go_wp2_with fail
  obtain ⟨A1_, c1_, e1_, hl1_, hC1_⟩ := Kd.R_reads HX1.out
  have hcall_ := spec_SelfEvacuated.calls k _ _ l0 v2 v3 _ hC1_ hl1_ hy3.out
  rw [← e1_] at hcall_
  refine hcall_.mono ?_
  clear hcall_ hC1_ hl1_ e1_ c1_ A1_
  rintro e w4 ⟨rfl, hb_⟩
  have HB4 := Aside0.mk hb_
  have HZ4 : Aside0 (w3.heap.size ≤ w4.heap.size) := ⟨hb_.size⟩
  have HT4 := Aside0.mk (HT3.out.trans (Below.mono hb_ HT3.out.size))
  clear hb_
  have n_ := Aside0.mk (Kd.R_below HX1.out HB4.out)
  clear HX1
  have HX1 := n_
  clear n_
  have n_ := Aside0.mk (blk_below HBK1.out HB4.out)
  clear HBK1 hcz1
  have HBK1 := n_
  clear n_
  have hcz1 : w4.cell? ⟨g1, 0, none⟩ = some (.slice A0 l0.length c0) := (blk_cell HBK1.out 0).trans rfl
  go_wp2_with fail
  have hcall_ := laws_toPoset.calls k1 _ _ l0 l0 _ (Kd.C_below HR0.out HT4.out) HC0.out hy2.out
  refine hcall_.mono ?_
  clear hcall_ 
  rintro e w5 ⟨v2x, rfl, hx2_, hb_⟩
  have HB5 := Aside0.mk hb_
  have HZ5 : Aside0 (w4.heap.size ≤ w5.heap.size) := ⟨hb_.size⟩
  have HT5 := Aside0.mk (HT4.out.trans (Below.mono hb_ HT4.out.size))
  clear hb_
  have n_ := Aside0.mk (Kd.R_below HX1.out HB5.out)
  clear HX1
  have HX1 := n_
  clear n_
  have n_ := Aside0.mk (blk_below HBK1.out HB5.out)
  clear HBK1 hcz1
  have HBK1 := n_
  clear n_
  have hcz1 : w5.cell? ⟨g1, 0, none⟩ = some (.slice A0 l0.length c0) := (blk_cell HBK1.out 0).trans rfl
  have HX2 := Aside0.mk (Kd.R_lower (Kd.R_mono (ok' := fun k_ => w4.heap.size ≤ k_ ∧ k_ < w5.heap.size) (Kd.R_bound hx2_) (fun k_ h_ => ⟨h_.2.1, h_.2.2.1⟩)) HT4.out.size)
  clear hx2_
  obtain ⟨Aq2, cq2, eq_⟩ := Kd.R_slice HX2.out
  subst eq_
  go_wp2_with (first | ((with_reducible refine gate_dst (N := 6) rfl ?_); refine box_event ?hg (N := 6) ?hd (cs := #[.slice none 0 0]) (t := 28) ?hr ?_; (case hd => rfl); (case hg => rfl); (case hr => first | (go_simp; done) | (go_simp; rfl)); intro g6 hg_ w6 hbox_ hb_; have HB6 := Aside0.mk hb_; have HZ6 : Aside0 (w5.heap.size ≤ w6.heap.size) := ⟨hb_.size⟩; have HT6 := Aside0.mk (HT5.out.trans (Below.mono hb_ HT5.out.size)); have HG6 : Aside0 (w5.heap.size ≤ g6 ∧ g6 < w6.heap.size) := ⟨Nat.le_of_eq hg_.symm, blk_lt hbox_⟩; have HBK_ := Aside0.mk hbox_; clear hb_ hbox_ hg_; have n_ := Aside0.mk (Kd.R_below HX1.out HB6.out); clear HX1; have HX1 := n_; clear n_; have n_ := Aside0.mk (Kd.R_below HX2.out HB6.out); clear HX2; have HX2 := n_; clear n_; have n_ := Aside0.mk (blk_below HBK1.out HB6.out); clear HBK1 hcz1; have HBK1 := n_; clear n_; have hcz1 : w6.cell? ⟨g1, 0, none⟩ = some (.slice A0 l0.length c0) := (blk_cell HBK1.out 0).trans rfl; have HBK6 := HBK_; clear HBK_; have hcz6 : w6.cell? ⟨g6, 0, none⟩ = some (.slice none 0 0) := (blk_cell HBK6.out 0).trans rfl; have hfz6 := blk_frozen HBK6.out 0) | ((with_reducible refine gate_store (t := 28) (p := 6) rfl ?_); refine store_event (t := 28) (p := 6) (v := ?vo_) (w1 := (w6.setCell ⟨g6, 0, none⟩ (.slice Aq2 l0.length cq2))) ?hg ?ho ?hn ?hr ?_; (case ho => rfl); (case hg => rfl); (case hn => rfl); (case hr => first | (go_simp; done) | (go_simp; rfl)); intro w7 hw_; have hlt_ : w.heap.size ≤ g6 := (by have z1 := HZ1.out; have z2 := HZ2.out; have z3 := HZ3.out; have z4 := HZ4.out; have z5 := HZ5.out; have z6 := HZ6.out; have hg_ := HG6.out; have h0_ := HT0.out.size; omega); have HT7 : Aside0 (Below w.heap.size w w7) := ⟨by rw [hw_]; exact below_set HT6.out hlt_⟩; have HZ7 : Aside0 (w6.heap.size ≤ w7.heap.size) := ⟨by rw [hw_]; simp [World.setCell]⟩; have n_ : Aside0 (Kd.R (Kd.int .i64) 3 w7 w.heap.size (fun k_ => w2.heap.size ≤ k_ ∧ k_ < w3.heap.size) v1x l0) := ⟨by rw [hw_]; exact Kd.R_far HX1.out (p := ⟨g6, 0, none⟩) (fun k_ h_ => by have z1 := HZ1.out; have z2 := HZ2.out; have z3 := HZ3.out; have z4 := HZ4.out; have z5 := HZ5.out; have z6 := HZ6.out; have hg_ := HG6.out; show k_ ≠ g6; omega) _⟩; clear HX1; have HX1 := n_; clear n_; have n_ : Aside0 (Kd.R (Kd.int .i64) 3 w7 w.heap.size (fun k_ => w4.heap.size ≤ k_ ∧ k_ < w5.heap.size) (.slice Aq2 l0.length cq2) l0) := ⟨by rw [hw_]; exact Kd.R_far HX2.out (p := ⟨g6, 0, none⟩) (fun k_ h_ => by have z1 := HZ1.out; have z2 := HZ2.out; have z3 := HZ3.out; have z4 := HZ4.out; have z5 := HZ5.out; have z6 := HZ6.out; have hg_ := HG6.out; show k_ ≠ g6; omega) _⟩; clear HX2; have HX2 := n_; clear n_; have nb1_ : Aside0 (w7.heap[g1]? = some (.cells #[.slice A0 l0.length c0] 24 (0, 0))) := ⟨by rw [hw_]; exact (Below.heap_setCell _ _ _ _ (by have z1 := HZ1.out; have z2 := HZ2.out; have z3 := HZ3.out; have z4 := HZ4.out; have z5 := HZ5.out; have z6 := HZ6.out; have h1_ := HG1.out; have h2_ := HG6.out; show g1 ≠ g6; omega)).trans HBK1.out⟩; have nb6_ : Aside0 (w7.heap[g6]? = some (.cells #[.slice Aq2 l0.length cq2] 28 (0, 0))) := ⟨by rw [hw_]; exact one_setCell HBK6.out⟩; clear hcz1; clear hcz6; clear hw_; clear HBK1; have HBK1 := nb1_; clear nb1_; have hcz1 : w7.cell? ⟨g1, 0, none⟩ = some (.slice A0 l0.length c0) := (blk_cell HBK1.out 0).trans rfl; clear HBK6; have HBK6 := nb6_; clear nb6_; have hcz6 : w7.cell? ⟨g6, 0, none⟩ = some (.slice Aq2 l0.length cq2) := (blk_cell HBK6.out 0).trans rfl))
  obtain ⟨A2_, c2_, e2_, hl2_, hC2_⟩ := Kd.R_reads HX2.out
  have hcall_ := impl_SelfEvacuated.calls k _ _ l0 v2 v3 _ hC2_ hl2_ hy4.out
  rw [← e2_] at hcall_
  refine hcall_.mono ?_
  clear hcall_ hC2_ hl2_ e2_ c2_ A2_
  rintro e w8 ⟨rfl, hb_⟩
  have HB8 := Aside0.mk hb_
  have HZ8 : Aside0 (w7.heap.size ≤ w8.heap.size) := ⟨hb_.size⟩
  have HT8 := Aside0.mk (HT7.out.trans (Below.mono hb_ HT7.out.size))
  clear hb_
  have n_ := Aside0.mk (Kd.R_below HX1.out HB8.out)
  clear HX1
  have HX1 := n_
  clear n_
  have n_ := Aside0.mk (Kd.R_below HX2.out HB8.out)
  clear HX2
  have HX2 := n_
  clear n_
  have n_ := Aside0.mk (blk_below HBK1.out HB8.out)
  clear HBK1 hcz1
  have HBK1 := n_
  clear n_
  have hcz1 : w8.cell? ⟨g1, 0, none⟩ = some (.slice A0 l0.length c0) := (blk_cell HBK1.out 0).trans rfl
  have n_ := Aside0.mk (blk_below HBK6.out HB8.out)
  clear HBK6 hcz6
  have HBK6 := n_
  clear n_
  have hcz6 : w8.cell? ⟨g6, 0, none⟩ = some (.slice Aq2 l0.length cq2) := (blk_cell HBK6.out 0).trans rfl
  go_wp2_with fail
  have HB9 := Aside0.mk (below_drew (Below.refl w8.heap.size w8))
  have HZ9 : Aside0 (w8.heap.size ≤ w8.drew.heap.size) := ⟨Nat.le_refl _⟩
  have HT9 := Aside0.mk (HT8.out.trans (Below.mono HB9.out HT8.out.size))
  have n_ := Aside0.mk (Kd.R_below HX1.out HB9.out)
  clear HX1
  have HX1 := n_
  clear n_
  have n_ := Aside0.mk (Kd.R_below HX2.out HB9.out)
  clear HX2
  have HX2 := n_
  clear n_
  have n_ := Aside0.mk (blk_below HBK1.out HB9.out)
  clear HBK1 hcz1
  have HBK1 := n_
  clear n_
  have hcz1 : w8.drew.cell? ⟨g1, 0, none⟩ = some (.slice A0 l0.length c0) := (blk_cell HBK1.out 0).trans rfl
  have n_ := Aside0.mk (blk_below HBK6.out HB9.out)
  clear HBK6 hcz6
  have HBK6 := n_
  clear n_
  have hcz6 : w8.drew.cell? ⟨g6, 0, none⟩ = some (.slice Aq2 l0.length cq2) := (blk_cell HBK6.out 0).trans rfl
  go_region_held3 (fun w_ => w_.cell? ⟨g1, 0, none⟩ = some (.slice A0 l0.length c0) ∧ w_.cell? ⟨g6, 0, none⟩ = some (.slice Aq2 l0.length cq2)) (exact ⟨hcz1, hcz6⟩) (first | (go_at_call 17; have hcall_ := laws_toPoset.calls k1 _ _ l0 l0 _ (Kd.C_below HR0.out HT9.out) HC0.out hy2.out; refine hcall_.mono ?_; clear hcall_; rintro e w10 ⟨v3x, rfl, hx3_, hb_⟩; have HB10 := Aside0.mk hb_; have HZ10 : Aside0 (w8.drew.heap.size ≤ w10.heap.size) := ⟨hb_.size⟩; have HT10 := Aside0.mk (HT9.out.trans (Below.mono hb_ HT9.out.size)); clear hb_; have n_ := Aside0.mk (Kd.R_below HX1.out HB10.out); clear HX1; have HX1 := n_; clear n_; have n_ := Aside0.mk (Kd.R_below HX2.out HB10.out); clear HX2; have HX2 := n_; clear n_; have n_ := Aside0.mk (blk_below HBK1.out HB10.out); clear HBK1 hcz1; have HBK1 := n_; clear n_; have hcz1 : w10.cell? ⟨g1, 0, none⟩ = some (.slice A0 l0.length c0) := (blk_cell HBK1.out 0).trans rfl; have n_ := Aside0.mk (blk_below HBK6.out HB10.out); clear HBK6 hcz6; have HBK6 := n_; clear n_; have hcz6 : w10.cell? ⟨g6, 0, none⟩ = some (.slice Aq2 l0.length cq2) := (blk_cell HBK6.out 0).trans rfl; have HX3 := Aside0.mk (Kd.R_lower (Kd.R_mono (ok' := fun k_ => w8.drew.heap.size ≤ k_ ∧ k_ < w10.heap.size) (Kd.R_bound hx3_) (fun k_ h_ => ⟨h_.2.1, h_.2.2.1⟩)) HT9.out.size); clear hx3_) | (go_at_call 21; obtain ⟨A2_, c2_, e2_, hl2_, hC2_⟩ := Kd.R_reads HX2.out; obtain ⟨A3_, c3_, e3_, hl3_, hC3_⟩ := Kd.R_reads HX3.out; have hcall_ := laws_eqPoset.calls k1 _ _ l0 _ _ l0 true _ hC2_ hl2_ hC3_ hl3_ hy5.out; rw [← e2_] at hcall_; rw [← e3_] at hcall_; refine hcall_.mono ?_; clear hcall_ hC2_ hl2_ e2_ c2_ A2_ hC3_ hl3_ e3_ c3_ A3_; rintro e w11 ⟨rfl, hb_⟩; have HB11 := Aside0.mk hb_; have HZ11 : Aside0 (w10.heap.size ≤ w11.heap.size) := ⟨hb_.size⟩; have HT11 := Aside0.mk (HT10.out.trans (Below.mono hb_ HT10.out.size)); clear hb_; have n_ := Aside0.mk (Kd.R_below HX1.out HB11.out); clear HX1; have HX1 := n_; clear n_; have n_ := Aside0.mk (Kd.R_below HX2.out HB11.out); clear HX2; have HX2 := n_; clear n_; have n_ := Aside0.mk (Kd.R_below HX3.out HB11.out); clear HX3; have HX3 := n_; clear n_; have n_ := Aside0.mk (blk_below HBK1.out HB11.out); clear HBK1 hcz1; have HBK1 := n_; clear n_; have hcz1 : w11.cell? ⟨g1, 0, none⟩ = some (.slice A0 l0.length c0) := (blk_cell HBK1.out 0).trans rfl; have n_ := Aside0.mk (blk_below HBK6.out HB11.out); clear HBK6 hcz6; have HBK6 := n_; clear n_; have hcz6 : w11.cell? ⟨g6, 0, none⟩ = some (.slice Aq2 l0.length cq2) := (blk_cell HBK6.out 0).trans rfl))
  go_wp2
  go_ret
  exact ⟨by first | rfl | (simp; done) | (simp [*]; done), by repeat (first | (with_reducible first | exact HT11.out | apply below_alloc | apply pw_below_drewN | apply below_drew1) | exact HT11.out)⟩
open Classical in
noncomputable def laws_FnExactSelfEvacuated.f (k : Nat) (l0 : List Int) : Option Bool := if ∃ k1 : Nat, (∃ (z1 : Int), (laws_szPoset.f l0 1048576 = some z1) ∧ (decide (z1 < 0) = true)) ∨ (∃ (z1 : Int) (v2 : Int) (v3 : Bool), (laws_szPoset.f l0 1048576 = some z1) ∧ (decide (z1 < 0) = false) ∧ (laws_toPoset.f k1 l0 = some l0) ∧ (spec_SelfEvacuated.f k l0 = some (v2, v3)) ∧ (impl_SelfEvacuated.f k l0 = some (v2, v3)) ∧ (laws_eqPoset.f k1 l0 l0 = some true)) then some true else none
theorem laws_FnExactSelfEvacuated.calls (k : Nat) (A0 : Option Addr) (c0 : Nat) (l0 : List Int) (r : Bool) (w : World) (hr0 : Kd.C (Kd.int .i64) w A0 l0.length l0) (hc0 : l0.length ≤ c0) (h : laws_FnExactSelfEvacuated.f k l0 = some r) :
    Calls Try.prog 14 #[.agg #[.slice A0 l0.length c0]] w fun e w' => e = .returned (.bool r) ∧ Below w.heap.size w w' := by
  unfold laws_FnExactSelfEvacuated.f at h
  split at h
  · rename_i hh
    obtain rfl := Option.some.inj h
    obtain ⟨k1, hh⟩ := hh
    rcases hh with ⟨z1, hy0, hx⟩ | ⟨z1, v2, v3, hy0, hy1, hy2, hy3, hy4, hy5⟩
    · exact laws_FnExactSelfEvacuated.calls0 k k1 _ _ l0 z1 w hr0 hc0 hy0 hx
    · exact laws_FnExactSelfEvacuated.calls1 k k1 _ _ l0 z1 v2 v3 w hr0 hc0 hy0 hy1 hy2 hy3 hy4 hy5
  · cases h
end Go.Proofs.Ytjahclncpgllmaa.F
end
