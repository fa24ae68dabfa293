/- Part 5 of the texts below the row of FnExactLabelsBySum: printed functions with their contracts, and plain lemmas. No condition. -/
import Derived.Test.YtemkddgfneohhaaZFnExactLabelsBySum4
import Derived.Deep.RegionHeld3
import Derived.OneCell
section
namespace Go.Proofs.Ytemkddgfneohhaa.F
open Go.RowKit Go.Proofs.YtemkddgfneohhaaW.PrintWords Go.Proofs.YtemkddgfneohhaaW.PrintLast Go.Proofs.YtemkddgfneohhaaW.PrintMore
set_option linter.unusedVariables false
set_option linter.unusedSimpArgs false
theorem laws_FnExactLabelsBySum.belowD {w w' : World} (h : Drawn0 w w') : Below w.heap.size w w' := by
  obtain ⟨m, rfl⟩ := h
  exact pw_below_drewN (Below.refl _ _) m
set_option maxHeartbeats 8000000 in
set_option maxRecDepth 100000 in
theorem laws_FnExactLabelsBySum.calls0 (k k1 : Nat) (A0 : Option Addr) (c0 : Nat) (l0 : List Int) (a1 : Int) (z1 : Int) (w : World) (hr0 : Kd.C (Kd.int .i64) w A0 l0.length l0) (hc0 : l0.length ≤ c0) (hy0_ : laws_szPoset.f l0 1048576 = some z1) (hx : decide (z1 < 0) = true) :
    Calls Try.prog 10 #[.agg #[.slice A0 l0.length c0], .int .i64 a1] w fun e w' => e = .returned (.bool true) ∧ Below w.heap.size w w' := by
  have HR0 := Aside0.mk hr0
  have HC0 := Aside0.mk hc0
  clear hr0 hc0
  have hy0 := Aside0.mk hy0_
  clear hy0_
  have HT0 := Aside0.mk (Below.refl w.heap.size w)
  go_enter Try.func10, Try.ntmps10
  go_wp2_with (first | ((with_reducible refine gate_dst (N := 2) rfl ?_); refine box_event ?hg (N := 2) ?hd (cs := #[.slice A0 l0.length c0]) (t := 27) ?hr ?_; (case hd => rfl); (case hg => rfl); (case hr => first | (go_simp; done) | (go_simp; rfl)); intro g2 hg_ w1 hbox_ hb_; have HB1 := Aside0.mk hb_; have HZ1 : Aside0 (w.heap.size ≤ w1.heap.size) := ⟨hb_.size⟩; have HT1 := Aside0.mk (HT0.out.trans (Below.mono hb_ HT0.out.size)); have HG2 : Aside0 (w.heap.size ≤ g2 ∧ g2 < w1.heap.size) := ⟨Nat.le_of_eq hg_.symm, blk_lt hbox_⟩; have HBK_ := Aside0.mk hbox_; clear hb_ hbox_ hg_; have HBK2 := HBK_; clear HBK_; have hcz2 : w1.cell? ⟨g2, 0, none⟩ = some (.slice A0 l0.length c0) := (blk_cell HBK2.out 0).trans rfl; have hfz2 := blk_frozen HBK2.out 0))
  have hcall_ := laws_szPoset.calls _ _ l0 1048576 z1 _ (Kd.C_below HR0.out HT1.out) HC0.out hy0.out
  refine hcall_.mono ?_
  clear hcall_ 
  rintro e w2 ⟨rfl, hb_⟩
  have HB2 := Aside0.mk hb_
  have HZ2 : Aside0 (w1.heap.size ≤ w2.heap.size) := ⟨hb_.size⟩
  have HT2 := Aside0.mk (HT1.out.trans (Below.mono hb_ HT1.out.size))
  clear hb_
  have n_ := Aside0.mk (blk_below HBK2.out HB2.out)
  clear HBK2 hcz2
  have HBK2 := n_
  clear n_
  have hcz2 : w2.cell? ⟨g2, 0, none⟩ = some (.slice A0 l0.length c0) := (blk_cell HBK2.out 0).trans rfl
  go_wp2
  go_ret
  exact ⟨by first | rfl | (simp; done) | (simp [*]; done), by repeat (first | (with_reducible first | exact HT2.out | apply below_alloc | apply pw_below_drewN | apply below_drew1) | exact HT2.out)⟩
set_option maxHeartbeats 8000000 in
set_option maxRecDepth 100000 in
theorem laws_FnExactLabelsBySum.calls1 (k k1 : Nat) (A0 : Option Addr) (c0 : Nat) (l0 : List Int) (a1 : Int) (z1 : Int) (v2 : List Int) (v3 : Bool) (m4 : Int) (u5 : List Int) (m6 : Int) (u7 : List Int) (w : World) (hr0 : Kd.C (Kd.int .i64) w A0 l0.length l0) (hc0 : l0.length ≤ c0) (hy0_ : laws_szPoset.f l0 1048576 = some z1) (hy1 : decide (z1 < 0) = false) (hy2_ : laws_toPoset.f k1 l0 = some l0) (hy3_ : spec_LabelsBySum.f k l0 a1 = some (v2, v3)) (hy4_ : impl_LabelsBySum.f k l0 a1 = some (v2, v3)) (hy5_ : laws_eqIntS.f k1 v2 v2 = some true) (hy6_ : laws_eqPoset.f k1 l0 l0 = some true) (hy7_ : laws_markPoset.f k1 l0 1 = some (m4, u5)) (hy8 : decide (m4 < 0) = false) (hy9_ : laws_markIntS.f k1 v2 1 = some (m6, u7)) (hy10_ : laws_heldIntS.f k1 u7 1 = some m6) (hy11 : decide (m6 < 0) = false) :
    Calls Try.prog 10 #[.agg #[.slice A0 l0.length c0], .int .i64 a1] w fun e w' => e = .returned (.bool true) ∧ Below w.heap.size w w' := by
  have HR0 := Aside0.mk hr0
  have HC0 := Aside0.mk hc0
  clear hr0 hc0
  have hy0 := Aside0.mk hy0_
  clear hy0_
  have hy2 := Aside0.mk hy2_
  clear hy2_
  have hy3 := Aside0.mk hy3_
  clear hy3_
  have hy4 := Aside0.mk hy4_
  clear hy4_
  have hy5 := Aside0.mk hy5_
  clear hy5_
  have hy6 := Aside0.mk hy6_
  clear hy6_
  have hy7 := Aside0.mk hy7_
  clear hy7_
  have hy9 := Aside0.mk hy9_
  clear hy9_
  have hy10 := Aside0.mk hy10_
  clear hy10_
  have HT0 := Aside0.mk (Below.refl w.heap.size w)
  go_enter Try.func10, Try.ntmps10
  go_wp2_with (first | ((with_reducible refine gate_dst (N := 2) rfl ?_); refine box_event ?hg (N := 2) ?hd (cs := #[.slice A0 l0.length c0]) (t := 27) ?hr ?_; (case hd => rfl); (case hg => rfl); (case hr => first | (go_simp; done) | (go_simp; rfl)); intro g2 hg_ w1 hbox_ hb_; have HB1 := Aside0.mk hb_; have HZ1 : Aside0 (w.heap.size ≤ w1.heap.size) := ⟨hb_.size⟩; have HT1 := Aside0.mk (HT0.out.trans (Below.mono hb_ HT0.out.size)); have HG2 : Aside0 (w.heap.size ≤ g2 ∧ g2 < w1.heap.size) := ⟨Nat.le_of_eq hg_.symm, blk_lt hbox_⟩; have HBK_ := Aside0.mk hbox_; clear hb_ hbox_ hg_; have HBK2 := HBK_; clear HBK_; have hcz2 : w1.cell? ⟨g2, 0, none⟩ = some (.slice A0 l0.length c0) := (blk_cell HBK2.out 0).trans rfl; have hfz2 := blk_frozen HBK2.out 0))
  have hcall_ := laws_szPoset.calls _ _ l0 1048576 z1 _ (Kd.C_below HR0.out HT1.out) HC0.out hy0.out
  refine hcall_.mono ?_
  clear hcall_ 
  rintro e w2 ⟨rfl, hb_⟩
  have HB2 := Aside0.mk hb_
  have HZ2 : Aside0 (w1.heap.size ≤ w2.heap.size) := ⟨hb_.size⟩
  have HT2 := Aside0.mk (HT1.out.trans (Below.mono hb_ HT1.out.size))
  clear hb_
  have n_ := Aside0.mk (blk_below HBK2.out HB2.out)
  clear HBK2 hcz2
  have HBK2 := n_
  clear n_
  have hcz2 : w2.cell? ⟨g2, 0, none⟩ = some (.slice A0 l0.length c0) := (blk_cell HBK2.out 0).trans rfl
  go_wp2_with fail
  have hcall_ := laws_toPoset.calls k1 _ _ l0 l0 _ (Kd.C_below HR0.out HT2.out) HC0.out hy2.out
  refine hcall_.mono ?_
  clear hcall_ 
  rintro e w3 ⟨v1x, rfl, hx1_, hb_⟩
  have HB3 := Aside0.mk hb_
  have HZ3 : Aside0 (w2.heap.size ≤ w3.heap.size) := ⟨hb_.size⟩
  have HT3 := Aside0.mk (HT2.out.trans (Below.mono hb_ HT2.out.size))
  clear hb_
  have n_ := Aside0.mk (blk_below HBK2.out HB3.out)
  clear HBK2 hcz2
  have HBK2 := n_
  clear n_
  have hcz2 : w3.cell? ⟨g2, 0, none⟩ = some (.slice A0 l0.length c0) := (blk_cell HBK2.out 0).trans rfl
  have HX1 := Aside0.mk (Kd.R_lower (Kd.R_mono (ok' := fun k_ => w2.heap.size ≤ k_ ∧ k_ < w3.heap.size) (Kd.R_bound hx1_) (fun k_ h_ => ⟨h_.2.1, h_.2.2.1⟩)) HT2.out.size)
  clear hx1_
  go_wp2_with fail
  obtain ⟨A1_, c1_, e1_, hl1_, hC1_⟩ := Kd.R_reads HX1.out
  have hcall_ := spec_LabelsBySum.calls k _ _ l0 a1 v2 v3 _ hC1_ hl1_ hy3.out
  rw [← e1_] at hcall_
  refine hcall_.mono ?_
  clear hcall_ hC1_ hl1_ e1_ c1_ A1_
  rintro e w4 ⟨v2x, rfl, hx2_, hb_⟩
  have HB4 := Aside0.mk hb_
  have HZ4 : Aside0 (w3.heap.size ≤ w4.heap.size) := ⟨hb_.size⟩
  have HT4 := Aside0.mk (HT3.out.trans (Below.mono hb_ HT3.out.size))
  clear hb_
  have n_ := Aside0.mk (Kd.R_below HX1.out HB4.out)
  clear HX1
  have HX1 := n_
  clear n_
  have n_ := Aside0.mk (blk_below HBK2.out HB4.out)
  clear HBK2 hcz2
  have HBK2 := n_
  clear n_
  have hcz2 : w4.cell? ⟨g2, 0, none⟩ = some (.slice A0 l0.length c0) := (blk_cell HBK2.out 0).trans rfl
  have HX2 := Aside0.mk (Kd.R_lower (Kd.R_mono (ok' := fun k_ => w3.heap.size ≤ k_ ∧ k_ < w4.heap.size) (Kd.R_bound hx2_) (fun k_ h_ => ⟨h_.2.1, h_.2.2.1⟩)) HT3.out.size)
  clear hx2_
  go_wp2_with fail
  have hcall_ := laws_toPoset.calls k1 _ _ l0 l0 _ (Kd.C_below HR0.out HT4.out) HC0.out hy2.out
  refine hcall_.mono ?_
  clear hcall_ 
  rintro e w5 ⟨v3x, rfl, hx3_, hb_⟩
  have HB5 := Aside0.mk hb_
  have HZ5 : Aside0 (w4.heap.size ≤ w5.heap.size) := ⟨hb_.size⟩
  have HT5 := Aside0.mk (HT4.out.trans (Below.mono hb_ HT4.out.size))
  clear hb_
  have n_ := Aside0.mk (Kd.R_below HX1.out HB5.out)
  clear HX1
  have HX1 := n_
  clear n_
  have n_ := Aside0.mk (Kd.R_below HX2.out HB5.out)
  clear HX2
  have HX2 := n_
  clear n_
  have n_ := Aside0.mk (blk_below HBK2.out HB5.out)
  clear HBK2 hcz2
  have HBK2 := n_
  clear n_
  have hcz2 : w5.cell? ⟨g2, 0, none⟩ = some (.slice A0 l0.length c0) := (blk_cell HBK2.out 0).trans rfl
  have HX3 := Aside0.mk (Kd.R_lower (Kd.R_mono (ok' := fun k_ => w4.heap.size ≤ k_ ∧ k_ < w5.heap.size) (Kd.R_bound hx3_) (fun k_ h_ => ⟨h_.2.1, h_.2.2.1⟩)) HT4.out.size)
  clear hx3_
  obtain ⟨Aq3, cq3, eq_⟩ := Kd.R_slice HX3.out
  subst eq_
  go_wp2_with (first | ((with_reducible refine gate_dst (N := 8) rfl ?_); refine box_event ?hg (N := 8) ?hd (cs := #[.slice none 0 0]) (t := 30) ?hr ?_; (case hd => rfl); (case hg => rfl); (case hr => first | (go_simp; done) | (go_simp; rfl)); intro g8 hg_ w6 hbox_ hb_; have HB6 := Aside0.mk hb_; have HZ6 : Aside0 (w5.heap.size ≤ w6.heap.size) := ⟨hb_.size⟩; have HT6 := Aside0.mk (HT5.out.trans (Below.mono hb_ HT5.out.size)); have HG8 : Aside0 (w5.heap.size ≤ g8 ∧ g8 < w6.heap.size) := ⟨Nat.le_of_eq hg_.symm, blk_lt hbox_⟩; have HBK_ := Aside0.mk hbox_; clear hb_ hbox_ hg_; have n_ := Aside0.mk (Kd.R_below HX1.out HB6.out); clear HX1; have HX1 := n_; clear n_; have n_ := Aside0.mk (Kd.R_below HX2.out HB6.out); clear HX2; have HX2 := n_; clear n_; have n_ := Aside0.mk (Kd.R_below HX3.out HB6.out); clear HX3; have HX3 := n_; clear n_; have n_ := Aside0.mk (blk_below HBK2.out HB6.out); clear HBK2 hcz2; have HBK2 := n_; clear n_; have hcz2 : w6.cell? ⟨g2, 0, none⟩ = some (.slice A0 l0.length c0) := (blk_cell HBK2.out 0).trans rfl; have HBK8 := HBK_; clear HBK_; have hcz8 : w6.cell? ⟨g8, 0, none⟩ = some (.slice none 0 0) := (blk_cell HBK8.out 0).trans rfl; have hfz8 := blk_frozen HBK8.out 0) | ((with_reducible refine gate_store (t := 30) (p := 8) rfl ?_); refine store_event (t := 30) (p := 8) (v := ?vo_) (w1 := (w6.setCell ⟨g8, 0, none⟩ (.slice Aq3 l0.length cq3))) ?hg ?ho ?hn ?hr ?_; (case ho => rfl); (case hg => rfl); (case hn => rfl); (case hr => first | (go_simp; done) | (go_simp; rfl)); intro w7 hw_; have hlt_ : w.heap.size ≤ g8 := (by have z1 := HZ1.out; have z2 := HZ2.out; have z3 := HZ3.out; have z4 := HZ4.out; have z5 := HZ5.out; have z6 := HZ6.out; have hg_ := HG8.out; have h0_ := HT0.out.size; omega); have HT7 : Aside0 (Below w.heap.size w w7) := ⟨by rw [hw_]; exact below_set HT6.out hlt_⟩; have HZ7 : Aside0 (w6.heap.size ≤ w7.heap.size) := ⟨by rw [hw_]; simp [World.setCell]⟩; have n_ : Aside0 (Kd.R (Kd.int .i64) 3 w7 w.heap.size (fun k_ => w2.heap.size ≤ k_ ∧ k_ < w3.heap.size) v1x l0) := ⟨by rw [hw_]; exact Kd.R_far HX1.out (p := ⟨g8, 0, none⟩) (fun k_ h_ => by have z1 := HZ1.out; have z2 := HZ2.out; have z3 := HZ3.out; have z4 := HZ4.out; have z5 := HZ5.out; have z6 := HZ6.out; have hg_ := HG8.out; show k_ ≠ g8; omega) _⟩; clear HX1; have HX1 := n_; clear n_; have n_ : Aside0 (Kd.R (Kd.int .i64) 3 w7 w.heap.size (fun k_ => w3.heap.size ≤ k_ ∧ k_ < w4.heap.size) v2x v2) := ⟨by rw [hw_]; exact Kd.R_far HX2.out (p := ⟨g8, 0, none⟩) (fun k_ h_ => by have z1 := HZ1.out; have z2 := HZ2.out; have z3 := HZ3.out; have z4 := HZ4.out; have z5 := HZ5.out; have z6 := HZ6.out; have hg_ := HG8.out; show k_ ≠ g8; omega) _⟩; clear HX2; have HX2 := n_; clear n_; have n_ : Aside0 (Kd.R (Kd.int .i64) 3 w7 w.heap.size (fun k_ => w4.heap.size ≤ k_ ∧ k_ < w5.heap.size) (.slice Aq3 l0.length cq3) l0) := ⟨by rw [hw_]; exact Kd.R_far HX3.out (p := ⟨g8, 0, none⟩) (fun k_ h_ => by have z1 := HZ1.out; have z2 := HZ2.out; have z3 := HZ3.out; have z4 := HZ4.out; have z5 := HZ5.out; have z6 := HZ6.out; have hg_ := HG8.out; show k_ ≠ g8; omega) _⟩; clear HX3; have HX3 := n_; clear n_; have nb2_ : Aside0 (w7.heap[g2]? = some (.cells #[.slice A0 l0.length c0] 27 (0, 0))) := ⟨by rw [hw_]; exact (Below.heap_setCell _ _ _ _ (by have z1 := HZ1.out; have z2 := HZ2.out; have z3 := HZ3.out; have z4 := HZ4.out; have z5 := HZ5.out; have z6 := HZ6.out; have h1_ := HG2.out; have h2_ := HG8.out; show g2 ≠ g8; omega)).trans HBK2.out⟩; have nb8_ : Aside0 (w7.heap[g8]? = some (.cells #[.slice Aq3 l0.length cq3] 30 (0, 0))) := ⟨by rw [hw_]; exact one_setCell HBK8.out⟩; clear hcz2; clear hcz8; clear hw_; clear HBK2; have HBK2 := nb2_; clear nb2_; have hcz2 : w7.cell? ⟨g2, 0, none⟩ = some (.slice A0 l0.length c0) := (blk_cell HBK2.out 0).trans rfl; clear HBK8; have HBK8 := nb8_; clear nb8_; have hcz8 : w7.cell? ⟨g8, 0, none⟩ = some (.slice Aq3 l0.length cq3) := (blk_cell HBK8.out 0).trans rfl))
  obtain ⟨A3_, c3_, e3_, hl3_, hC3_⟩ := Kd.R_reads HX3.out
  have hcall_ := impl_LabelsBySum.calls k _ _ l0 a1 v2 v3 _ hC3_ hl3_ hy4.out
  rw [← e3_] at hcall_
  refine hcall_.mono ?_
  clear hcall_ hC3_ hl3_ e3_ c3_ A3_
  rintro e w8 ⟨v4x, rfl, hx4_, hb_⟩
  have HB8 := Aside0.mk hb_
  have HZ8 : Aside0 (w7.heap.size ≤ w8.heap.size) := ⟨hb_.size⟩
  have HT8 := Aside0.mk (HT7.out.trans (Below.mono hb_ HT7.out.size))
  clear hb_
  have n_ := Aside0.mk (Kd.R_below HX1.out HB8.out)
  clear HX1
  have HX1 := n_
  clear n_
  have n_ := Aside0.mk (Kd.R_below HX2.out HB8.out)
  clear HX2
  have HX2 := n_
  clear n_
  have n_ := Aside0.mk (Kd.R_below HX3.out HB8.out)
  clear HX3
  have HX3 := n_
  clear n_
  have n_ := Aside0.mk (blk_below HBK2.out HB8.out)
  clear HBK2 hcz2
  have HBK2 := n_
  clear n_
  have hcz2 : w8.cell? ⟨g2, 0, none⟩ = some (.slice A0 l0.length c0) := (blk_cell HBK2.out 0).trans rfl
  have n_ := Aside0.mk (blk_below HBK8.out HB8.out)
  clear HBK8 hcz8
  have HBK8 := n_
  clear n_
  have hcz8 : w8.cell? ⟨g8, 0, none⟩ = some (.slice Aq3 l0.length cq3) := (blk_cell HBK8.out 0).trans rfl
  have HX4 := Aside0.mk (Kd.R_lower (Kd.R_mono (ok' := fun k_ => w7.heap.size ≤ k_ ∧ k_ < w8.heap.size) (Kd.R_bound hx4_) (fun k_ h_ => ⟨h_.2.1, h_.2.2.1⟩)) HT7.out.size)
  clear hx4_
  go_wp2_with fail
  obtain ⟨A4_, c4_, e4_, hl4_, hC4_⟩ := Kd.R_reads HX4.out
  obtain ⟨A2_, c2_, e2_, hl2_, hC2_⟩ := Kd.R_reads HX2.out
  have hcall_ := laws_eqIntS.calls k1 _ _ v2 _ _ v2 true _ hC4_ hl4_ hC2_ hl2_ hy5.out
  rw [← e4_] at hcall_
  rw [← e2_] at hcall_
  refine hcall_.mono ?_
  clear hcall_ hC4_ hl4_ e4_ c4_ A4_ hC2_ hl2_ e2_ c2_ A2_
  rintro e w9 ⟨rfl, hb0_⟩
  have hb_ := laws_FnExactLabelsBySum.belowD hb0_
  clear hb0_
  have HB9 := Aside0.mk hb_
  have HZ9 : Aside0 (w8.heap.size ≤ w9.heap.size) := ⟨hb_.size⟩
  have HT9 := Aside0.mk (HT8.out.trans (Below.mono hb_ HT8.out.size))
  clear hb_
  have n_ := Aside0.mk (Kd.R_below HX1.out HB9.out)
  clear HX1
  have HX1 := n_
  clear n_
  have n_ := Aside0.mk (Kd.R_below HX2.out HB9.out)
  clear HX2
  have HX2 := n_
  clear n_
  have n_ := Aside0.mk (Kd.R_below HX3.out HB9.out)
  clear HX3
  have HX3 := n_
  clear n_
  have n_ := Aside0.mk (Kd.R_below HX4.out HB9.out)
  clear HX4
  have HX4 := n_
  clear n_
  have n_ := Aside0.mk (blk_below HBK2.out HB9.out)
  clear HBK2 hcz2
  have HBK2 := n_
  clear n_
  have hcz2 : w9.cell? ⟨g2, 0, none⟩ = some (.slice A0 l0.length c0) := (blk_cell HBK2.out 0).trans rfl
  have n_ := Aside0.mk (blk_below HBK8.out HB9.out)
  clear HBK8 hcz8
  have HBK8 := n_
  clear n_
  have hcz8 : w9.cell? ⟨g8, 0, none⟩ = some (.slice Aq3 l0.length cq3) := (blk_cell HBK8.out 0).trans rfl
  go_wp2_with fail
  have HB10 := Aside0.mk (below_drew (Below.refl w9.heap.size w9))
  have HZ10 : Aside0 (w9.heap.size ≤ w9.drew.heap.size) := ⟨Nat.le_refl _⟩
  have HT10 := Aside0.mk (HT9.out.trans (Below.mono HB10.out HT9.out.size))
  have n_ := Aside0.mk (Kd.R_below HX1.out HB10.out)
  clear HX1
  have HX1 := n_
  clear n_
  have n_ := Aside0.mk (Kd.R_below HX2.out HB10.out)
  clear HX2
  have HX2 := n_
  clear n_
  have n_ := Aside0.mk (Kd.R_below HX3.out HB10.out)
  clear HX3
  have HX3 := n_
  clear n_
  have n_ := Aside0.mk (Kd.R_below HX4.out HB10.out)
  clear HX4
  have HX4 := n_
  clear n_
  have n_ := Aside0.mk (blk_below HBK2.out HB10.out)
  clear HBK2 hcz2
  have HBK2 := n_
  clear n_
  have hcz2 : w9.drew.cell? ⟨g2, 0, none⟩ = some (.slice A0 l0.length c0) := (blk_cell HBK2.out 0).trans rfl
  have n_ := Aside0.mk (blk_below HBK8.out HB10.out)
  clear HBK8 hcz8
  have HBK8 := n_
  clear n_
  have hcz8 : w9.drew.cell? ⟨g8, 0, none⟩ = some (.slice Aq3 l0.length cq3) := (blk_cell HBK8.out 0).trans rfl
  go_region_held3 (fun w_ => w_.cell? ⟨g2, 0, none⟩ = some (.slice A0 l0.length c0) ∧ w_.cell? ⟨g8, 0, none⟩ = some (.slice Aq3 l0.length cq3)) (exact ⟨hcz2, hcz8⟩) (first | (go_at_call 16; have hcall_ := laws_toPoset.calls k1 _ _ l0 l0 _ (Kd.C_below HR0.out HT10.out) HC0.out hy2.out; refine hcall_.mono ?_; clear hcall_; rintro e w11 ⟨v5x, rfl, hx5_, hb_⟩; have HB11 := Aside0.mk hb_; have HZ11 : Aside0 (w9.drew.heap.size ≤ w11.heap.size) := ⟨hb_.size⟩; have HT11 := Aside0.mk (HT10.out.trans (Below.mono hb_ HT10.out.size)); clear hb_; have n_ := Aside0.mk (Kd.R_below HX1.out HB11.out); clear HX1; have HX1 := n_; clear n_; have n_ := Aside0.mk (Kd.R_below HX2.out HB11.out); clear HX2; have HX2 := n_; clear n_; have n_ := Aside0.mk (Kd.R_below HX3.out HB11.out); clear HX3; have HX3 := n_; clear n_; have n_ := Aside0.mk (Kd.R_below HX4.out HB11.out); clear HX4; have HX4 := n_; clear n_; have n_ := Aside0.mk (blk_below HBK2.out HB11.out); clear HBK2 hcz2; have HBK2 := n_; clear n_; have hcz2 : w11.cell? ⟨g2, 0, none⟩ = some (.slice A0 l0.length c0) := (blk_cell HBK2.out 0).trans rfl; have n_ := Aside0.mk (blk_below HBK8.out HB11.out); clear HBK8 hcz8; have HBK8 := n_; clear n_; have hcz8 : w11.cell? ⟨g8, 0, none⟩ = some (.slice Aq3 l0.length cq3) := (blk_cell HBK8.out 0).trans rfl; have HX5 := Aside0.mk (Kd.R_lower (Kd.R_mono (ok' := fun k_ => w9.drew.heap.size ≤ k_ ∧ k_ < w11.heap.size) (Kd.R_bound hx5_) (fun k_ h_ => ⟨h_.2.1, h_.2.2.1⟩)) HT10.out.size); clear hx5_) | (go_at_call 18; obtain ⟨A3_, c3_, e3_, hl3_, hC3_⟩ := Kd.R_reads HX3.out; obtain ⟨A5_, c5_, e5_, hl5_, hC5_⟩ := Kd.R_reads HX5.out; have hcall_ := laws_eqPoset.calls k1 _ _ l0 _ _ l0 true _ hC3_ hl3_ hC5_ hl5_ hy6.out; rw [← e3_] at hcall_; rw [← e5_] at hcall_; refine hcall_.mono ?_; clear hcall_ hC3_ hl3_ e3_ c3_ A3_ hC5_ hl5_ e5_ c5_ A5_; rintro e w12 ⟨rfl, hb_⟩; have HB12 := Aside0.mk hb_; have HZ12 : Aside0 (w11.heap.size ≤ w12.heap.size) := ⟨hb_.size⟩; have HT12 := Aside0.mk (HT11.out.trans (Below.mono hb_ HT11.out.size)); clear hb_; have n_ := Aside0.mk (Kd.R_below HX1.out HB12.out); clear HX1; have HX1 := n_; clear n_; have n_ := Aside0.mk (Kd.R_below HX2.out HB12.out); clear HX2; have HX2 := n_; clear n_; have n_ := Aside0.mk (Kd.R_below HX3.out HB12.out); clear HX3; have HX3 := n_; clear n_; have n_ := Aside0.mk (Kd.R_below HX4.out HB12.out); clear HX4; have HX4 := n_; clear n_; have n_ := Aside0.mk (Kd.R_below HX5.out HB12.out); clear HX5; have HX5 := n_; clear n_; have n_ := Aside0.mk (blk_below HBK2.out HB12.out); clear HBK2 hcz2; have HBK2 := n_; clear n_; have hcz2 : w12.cell? ⟨g2, 0, none⟩ = some (.slice A0 l0.length c0) := (blk_cell HBK2.out 0).trans rfl; have n_ := Aside0.mk (blk_below HBK8.out HB12.out); clear HBK8 hcz8; have HBK8 := n_; clear n_; have hcz8 : w12.cell? ⟨g8, 0, none⟩ = some (.slice Aq3 l0.length cq3) := (blk_cell HBK8.out 0).trans rfl))
  go_wp2_with fail
  refine (laws_markPoset.calls k1 (fun k_ => some k_ = ((.slice Aq3 l0.length cq3) : Value).ownBlock) (.slice Aq3 l0.length cq3) l0 1 m4 u5 w _ HT12.out (Kd.R_tight rfl HX3.out) hy7.out).mono ?_
  rintro e w13 ⟨rfl, hy_, hb_, hk_⟩
  have HT13 := Aside0.mk hb_
  have HK13 := Aside0.mk hk_
  have HZ13 : Aside0 (w12.heap.size ≤ w13.heap.size) := ⟨hk_.1⟩
  have HO := HX3
  have HY := Aside0.mk (Kd.R_reok rfl hy_ (fun k_ e_ => HO.out.1 k_ e_))
  clear hy_ hb_ hk_
  have n_ := Aside0.mk (Kd.R_kept HX1.out HK13.out (fun k_ h_ h2_ => by have z1 := HZ1.out; have z2 := HZ2.out; have z3 := HZ3.out; have z4 := HZ4.out; have z5 := HZ5.out; have z6 := HZ6.out; have z7 := HZ7.out; have z8 := HZ8.out; have z9 := HZ9.out; have z10 := HZ10.out; have z11 := HZ11.out; have z12 := HZ12.out; have z13 := HZ13.out; have h3_ := HO.out.1 k_ h2_.symm; omega))
  clear HX1
  have HX1 := n_
  clear n_
  have n_ := Aside0.mk (Kd.R_kept HX2.out HK13.out (fun k_ h_ h2_ => by have z1 := HZ1.out; have z2 := HZ2.out; have z3 := HZ3.out; have z4 := HZ4.out; have z5 := HZ5.out; have z6 := HZ6.out; have z7 := HZ7.out; have z8 := HZ8.out; have z9 := HZ9.out; have z10 := HZ10.out; have z11 := HZ11.out; have z12 := HZ12.out; have z13 := HZ13.out; have h3_ := HO.out.1 k_ h2_.symm; omega))
  clear HX2
  have HX2 := n_
  clear n_
  have n_ := Aside0.mk (Kd.R_kept HX4.out HK13.out (fun k_ h_ h2_ => by have z1 := HZ1.out; have z2 := HZ2.out; have z3 := HZ3.out; have z4 := HZ4.out; have z5 := HZ5.out; have z6 := HZ6.out; have z7 := HZ7.out; have z8 := HZ8.out; have z9 := HZ9.out; have z10 := HZ10.out; have z11 := HZ11.out; have z12 := HZ12.out; have z13 := HZ13.out; have h3_ := HO.out.1 k_ h2_.symm; omega))
  clear HX4
  have HX4 := n_
  clear n_
  have n_ := Aside0.mk (Kd.R_kept HX5.out HK13.out (fun k_ h_ h2_ => by have z1 := HZ1.out; have z2 := HZ2.out; have z3 := HZ3.out; have z4 := HZ4.out; have z5 := HZ5.out; have z6 := HZ6.out; have z7 := HZ7.out; have z8 := HZ8.out; have z9 := HZ9.out; have z10 := HZ10.out; have z11 := HZ11.out; have z12 := HZ12.out; have z13 := HZ13.out; have h3_ := HO.out.1 k_ h2_.symm; omega))
  clear HX5
  have HX5 := n_
  clear n_
  have n_ := Aside0.mk ((HK13.out.2 g2 (blk_lt HBK2.out) (fun h2_ => by have z1 := HZ1.out; have z2 := HZ2.out; have z3 := HZ3.out; have z4 := HZ4.out; have z5 := HZ5.out; have z6 := HZ6.out; have z7 := HZ7.out; have z8 := HZ8.out; have z9 := HZ9.out; have z10 := HZ10.out; have z11 := HZ11.out; have z12 := HZ12.out; have z13 := HZ13.out; have hg_ := HG2.out; have h3_ := HO.out.1 g2 h2_.symm; omega)).trans HBK2.out)
  clear HBK2 hcz2
  have HBK2 := n_
  clear n_
  have hcz2 : w13.cell? ⟨g2, 0, none⟩ = some (.slice A0 l0.length c0) := (blk_cell HBK2.out 0).trans rfl
  have n_ := Aside0.mk ((HK13.out.2 g8 (blk_lt HBK8.out) (fun h2_ => by have z1 := HZ1.out; have z2 := HZ2.out; have z3 := HZ3.out; have z4 := HZ4.out; have z5 := HZ5.out; have z6 := HZ6.out; have z7 := HZ7.out; have z8 := HZ8.out; have z9 := HZ9.out; have z10 := HZ10.out; have z11 := HZ11.out; have z12 := HZ12.out; have z13 := HZ13.out; have hg_ := HG8.out; have h3_ := HO.out.1 g8 h2_.symm; omega)).trans HBK8.out)
  clear HBK8 hcz8
  have HBK8 := n_
  clear n_
  have hcz8 : w13.cell? ⟨g8, 0, none⟩ = some (.slice Aq3 l0.length cq3) := (blk_cell HBK8.out 0).trans rfl
  clear HX3 HO
  have HX3 := HY
  clear HY
  go_wp2_with fail
  obtain ⟨A4_, c4_, e4_, hl4_, hC4_⟩ := Kd.R_reads HX4.out
  obtain ⟨A2_, c2_, e2_, hl2_, hC2_⟩ := Kd.R_reads HX2.out
  have hcall_ := laws_eqIntS.calls k1 _ _ v2 _ _ v2 true _ hC4_ hl4_ hC2_ hl2_ hy5.out
  rw [← e4_] at hcall_
  rw [← e2_] at hcall_
  refine hcall_.mono ?_
  clear hcall_ hC4_ hl4_ e4_ c4_ A4_ hC2_ hl2_ e2_ c2_ A2_
  rintro e w14 ⟨rfl, hb0_⟩
  have hb_ := laws_FnExactLabelsBySum.belowD hb0_
  clear hb0_
  have HB14 := Aside0.mk hb_
  have HZ14 : Aside0 (w13.heap.size ≤ w14.heap.size) := ⟨hb_.size⟩
  have HT14 := Aside0.mk (HT13.out.trans (Below.mono hb_ HT13.out.size))
  clear hb_
  have n_ := Aside0.mk (Kd.R_below HX1.out HB14.out)
  clear HX1
  have HX1 := n_
  clear n_
  have n_ := Aside0.mk (Kd.R_below HX2.out HB14.out)
  clear HX2
  have HX2 := n_
  clear n_
  have n_ := Aside0.mk (Kd.R_below HX3.out HB14.out)
  clear HX3
  have HX3 := n_
  clear n_
  have n_ := Aside0.mk (Kd.R_below HX4.out HB14.out)
  clear HX4
  have HX4 := n_
  clear n_
  have n_ := Aside0.mk (Kd.R_below HX5.out HB14.out)
  clear HX5
  have HX5 := n_
  clear n_
  have n_ := Aside0.mk (blk_below HBK2.out HB14.out)
  clear HBK2 hcz2
  have HBK2 := n_
  clear n_
  have hcz2 : w14.cell? ⟨g2, 0, none⟩ = some (.slice A0 l0.length c0) := (blk_cell HBK2.out 0).trans rfl
  have n_ := Aside0.mk (blk_below HBK8.out HB14.out)
  clear HBK8 hcz8
  have HBK8 := n_
  clear n_
  have hcz8 : w14.cell? ⟨g8, 0, none⟩ = some (.slice Aq3 l0.length cq3) := (blk_cell HBK8.out 0).trans rfl
  go_wp2_with fail
  refine (laws_markIntS.calls k1 (fun k_ => some k_ = (v4x : Value).ownBlock) v4x v2 1 m6 u7 w _ HT14.out (Kd.R_tight rfl HX4.out) hy9.out).mono ?_
  rintro e w15 ⟨rfl, hy_, hb_, hk_⟩
  have HT15 := Aside0.mk hb_
  have HK15 := Aside0.mk hk_
  have HZ15 : Aside0 (w14.heap.size ≤ w15.heap.size) := ⟨hk_.1⟩
  have HO := HX4
  have HY := Aside0.mk (Kd.R_reok rfl hy_ (fun k_ e_ => HO.out.1 k_ e_))
  clear hy_ hb_ hk_
  have n_ := Aside0.mk (Kd.R_kept HX1.out HK15.out (fun k_ h_ h2_ => by have z1 := HZ1.out; have z2 := HZ2.out; have z3 := HZ3.out; have z4 := HZ4.out; have z5 := HZ5.out; have z6 := HZ6.out; have z7 := HZ7.out; have z8 := HZ8.out; have z9 := HZ9.out; have z10 := HZ10.out; have z11 := HZ11.out; have z12 := HZ12.out; have z13 := HZ13.out; have z14 := HZ14.out; have z15 := HZ15.out; have h3_ := HO.out.1 k_ h2_.symm; omega))
  clear HX1
  have HX1 := n_
  clear n_
  have n_ := Aside0.mk (Kd.R_kept HX2.out HK15.out (fun k_ h_ h2_ => by have z1 := HZ1.out; have z2 := HZ2.out; have z3 := HZ3.out; have z4 := HZ4.out; have z5 := HZ5.out; have z6 := HZ6.out; have z7 := HZ7.out; have z8 := HZ8.out; have z9 := HZ9.out; have z10 := HZ10.out; have z11 := HZ11.out; have z12 := HZ12.out; have z13 := HZ13.out; have z14 := HZ14.out; have z15 := HZ15.out; have h3_ := HO.out.1 k_ h2_.symm; omega))
  clear HX2
  have HX2 := n_
  clear n_
  have n_ := Aside0.mk (Kd.R_kept HX3.out HK15.out (fun k_ h_ h2_ => by have z1 := HZ1.out; have z2 := HZ2.out; have z3 := HZ3.out; have z4 := HZ4.out; have z5 := HZ5.out; have z6 := HZ6.out; have z7 := HZ7.out; have z8 := HZ8.out; have z9 := HZ9.out; have z10 := HZ10.out; have z11 := HZ11.out; have z12 := HZ12.out; have z13 := HZ13.out; have z14 := HZ14.out; have z15 := HZ15.out; have h3_ := HO.out.1 k_ h2_.symm; omega))
  clear HX3
  have HX3 := n_
  clear n_
  have n_ := Aside0.mk (Kd.R_kept HX5.out HK15.out (fun k_ h_ h2_ => by have z1 := HZ1.out; have z2 := HZ2.out; have z3 := HZ3.out; have z4 := HZ4.out; have z5 := HZ5.out; have z6 := HZ6.out; have z7 := HZ7.out; have z8 := HZ8.out; have z9 := HZ9.out; have z10 := HZ10.out; have z11 := HZ11.out; have z12 := HZ12.out; have z13 := HZ13.out; have z14 := HZ14.out; have z15 := HZ15.out; have h3_ := HO.out.1 k_ h2_.symm; omega))
  clear HX5
  have HX5 := n_
  clear n_
  have n_ := Aside0.mk ((HK15.out.2 g2 (blk_lt HBK2.out) (fun h2_ => by have z1 := HZ1.out; have z2 := HZ2.out; have z3 := HZ3.out; have z4 := HZ4.out; have z5 := HZ5.out; have z6 := HZ6.out; have z7 := HZ7.out; have z8 := HZ8.out; have z9 := HZ9.out; have z10 := HZ10.out; have z11 := HZ11.out; have z12 := HZ12.out; have z13 := HZ13.out; have z14 := HZ14.out; have z15 := HZ15.out; have hg_ := HG2.out; have h3_ := HO.out.1 g2 h2_.symm; omega)).trans HBK2.out)
  clear HBK2 hcz2
  have HBK2 := n_
  clear n_
  have hcz2 : w15.cell? ⟨g2, 0, none⟩ = some (.slice A0 l0.length c0) := (blk_cell HBK2.out 0).trans rfl
  have n_ := Aside0.mk ((HK15.out.2 g8 (blk_lt HBK8.out) (fun h2_ => by have z1 := HZ1.out; have z2 := HZ2.out; have z3 := HZ3.out; have z4 := HZ4.out; have z5 := HZ5.out; have z6 := HZ6.out; have z7 := HZ7.out; have z8 := HZ8.out; have z9 := HZ9.out; have z10 := HZ10.out; have z11 := HZ11.out; have z12 := HZ12.out; have z13 := HZ13.out; have z14 := HZ14.out; have z15 := HZ15.out; have hg_ := HG8.out; have h3_ := HO.out.1 g8 h2_.symm; omega)).trans HBK8.out)
  clear HBK8 hcz8
  have HBK8 := n_
  clear n_
  have hcz8 : w15.cell? ⟨g8, 0, none⟩ = some (.slice Aq3 l0.length cq3) := (blk_cell HBK8.out 0).trans rfl
  clear HX4 HO
  have HX4 := HY
  clear HY
  go_wp2_with fail
  obtain ⟨A4_, c4_, e4_, hl4_, hC4_⟩ := Kd.R_reads HX4.out
  have hcall_ := laws_heldIntS.calls k1 _ _ u7 1 m6 _ hC4_ hl4_ hy10.out
  rw [← e4_] at hcall_
  refine hcall_.mono ?_
  clear hcall_ hC4_ hl4_ e4_ c4_ A4_
  rintro e w16 ⟨rfl, hb0_⟩
  have hb_ := laws_FnExactLabelsBySum.belowD hb0_
  clear hb0_
  have HB16 := Aside0.mk hb_
  have HZ16 : Aside0 (w15.heap.size ≤ w16.heap.size) := ⟨hb_.size⟩
  have HT16 := Aside0.mk (HT15.out.trans (Below.mono hb_ HT15.out.size))
  clear hb_
  have n_ := Aside0.mk (Kd.R_below HX1.out HB16.out)
  clear HX1
  have HX1 := n_
  clear n_
  have n_ := Aside0.mk (Kd.R_below HX2.out HB16.out)
  clear HX2
  have HX2 := n_
  clear n_
  have n_ := Aside0.mk (Kd.R_below HX3.out HB16.out)
  clear HX3
  have HX3 := n_
  clear n_
  have n_ := Aside0.mk (Kd.R_below HX4.out HB16.out)
  clear HX4
  have HX4 := n_
  clear n_
  have n_ := Aside0.mk (Kd.R_below HX5.out HB16.out)
  clear HX5
  have HX5 := n_
  clear n_
  have n_ := Aside0.mk (blk_below HBK2.out HB16.out)
  clear HBK2 hcz2
  have HBK2 := n_
  clear n_
  have hcz2 : w16.cell? ⟨g2, 0, none⟩ = some (.slice A0 l0.length c0) := (blk_cell HBK2.out 0).trans rfl
  have n_ := Aside0.mk (blk_below HBK8.out HB16.out)
  clear HBK8 hcz8
  have HBK8 := n_
  clear n_
  have hcz8 : w16.cell? ⟨g8, 0, none⟩ = some (.slice Aq3 l0.length cq3) := (blk_cell HBK8.out 0).trans rfl
  go_wp2_with fail
  have hcall_ := laws_toPoset.calls k1 _ _ l0 l0 _ (Kd.C_below HR0.out HT16.out) HC0.out hy2.out
  refine hcall_.mono ?_
  clear hcall_ 
  rintro e w17 ⟨v6x, rfl, hx6_, hb_⟩
  have HB17 := Aside0.mk hb_
  have HZ17 : Aside0 (w16.heap.size ≤ w17.heap.size) := ⟨hb_.size⟩
  have HT17 := Aside0.mk (HT16.out.trans (Below.mono hb_ HT16.out.size))
  clear hb_
  have n_ := Aside0.mk (Kd.R_below HX1.out HB17.out)
  clear HX1
  have HX1 := n_
  clear n_
  have n_ := Aside0.mk (Kd.R_below HX2.out HB17.out)
  clear HX2
  have HX2 := n_
  clear n_
  have n_ := Aside0.mk (Kd.R_below HX3.out HB17.out)
  clear HX3
  have HX3 := n_
  clear n_
  have n_ := Aside0.mk (Kd.R_below HX4.out HB17.out)
  clear HX4
  have HX4 := n_
  clear n_
  have n_ := Aside0.mk (Kd.R_below HX5.out HB17.out)
  clear HX5
  have HX5 := n_
  clear n_
  have n_ := Aside0.mk (blk_below HBK2.out HB17.out)
  clear HBK2 hcz2
  have HBK2 := n_
  clear n_
  have hcz2 : w17.cell? ⟨g2, 0, none⟩ = some (.slice A0 l0.length c0) := (blk_cell HBK2.out 0).trans rfl
  have n_ := Aside0.mk (blk_below HBK8.out HB17.out)
  clear HBK8 hcz8
  have HBK8 := n_
  clear n_
  have hcz8 : w17.cell? ⟨g8, 0, none⟩ = some (.slice Aq3 l0.length cq3) := (blk_cell HBK8.out 0).trans rfl
  have HX6 := Aside0.mk (Kd.R_lower (Kd.R_mono (ok' := fun k_ => w16.heap.size ≤ k_ ∧ k_ < w17.heap.size) (Kd.R_bound hx6_) (fun k_ h_ => ⟨h_.2.1, h_.2.2.1⟩)) HT16.out.size)
  clear hx6_
  go_wp2_with fail
  obtain ⟨A6_, c6_, e6_, hl6_, hC6_⟩ := Kd.R_reads HX6.out
  have hcall_ := impl_LabelsBySum.calls k _ _ l0 a1 v2 v3 _ hC6_ hl6_ hy4.out
  rw [← e6_] at hcall_
  refine hcall_.mono ?_
  clear hcall_ hC6_ hl6_ e6_ c6_ A6_
  rintro e w18 ⟨v7x, rfl, hx7_, hb_⟩
  have HB18 := Aside0.mk hb_
  have HZ18 : Aside0 (w17.heap.size ≤ w18.heap.size) := ⟨hb_.size⟩
  have HT18 := Aside0.mk (HT17.out.trans (Below.mono hb_ HT17.out.size))
  clear hb_
  have n_ := Aside0.mk (Kd.R_below HX1.out HB18.out)
  clear HX1
  have HX1 := n_
  clear n_
  have n_ := Aside0.mk (Kd.R_below HX2.out HB18.out)
  clear HX2
  have HX2 := n_
  clear n_
  have n_ := Aside0.mk (Kd.R_below HX3.out HB18.out)
  clear HX3
  have HX3 := n_
  clear n_
  have n_ := Aside0.mk (Kd.R_below HX4.out HB18.out)
  clear HX4
  have HX4 := n_
  clear n_
  have n_ := Aside0.mk (Kd.R_below HX5.out HB18.out)
  clear HX5
  have HX5 := n_
  clear n_
  have n_ := Aside0.mk (Kd.R_below HX6.out HB18.out)
  clear HX6
  have HX6 := n_
  clear n_
  have n_ := Aside0.mk (blk_below HBK2.out HB18.out)
  clear HBK2 hcz2
  have HBK2 := n_
  clear n_
  have hcz2 : w18.cell? ⟨g2, 0, none⟩ = some (.slice A0 l0.length c0) := (blk_cell HBK2.out 0).trans rfl
  have n_ := Aside0.mk (blk_below HBK8.out HB18.out)
  clear HBK8 hcz8
  have HBK8 := n_
  clear n_
  have hcz8 : w18.cell? ⟨g8, 0, none⟩ = some (.slice Aq3 l0.length cq3) := (blk_cell HBK8.out 0).trans rfl
  have HX7 := Aside0.mk (Kd.R_lower (Kd.R_mono (ok' := fun k_ => w17.heap.size ≤ k_ ∧ k_ < w18.heap.size) (Kd.R_bound hx7_) (fun k_ h_ => ⟨h_.2.1, h_.2.2.1⟩)) HT17.out.size)
  clear hx7_
  go_wp2_with fail
  obtain ⟨A7_, c7_, e7_, hl7_, hC7_⟩ := Kd.R_reads HX7.out
  obtain ⟨A2_, c2_, e2_, hl2_, hC2_⟩ := Kd.R_reads HX2.out
  have hcall_ := laws_eqIntS.calls k1 _ _ v2 _ _ v2 true _ hC7_ hl7_ hC2_ hl2_ hy5.out
  rw [← e7_] at hcall_
  rw [← e2_] at hcall_
  refine hcall_.mono ?_
  clear hcall_ hC7_ hl7_ e7_ c7_ A7_ hC2_ hl2_ e2_ c2_ A2_
  rintro e w19 ⟨rfl, hb0_⟩
  have hb_ := laws_FnExactLabelsBySum.belowD hb0_
  clear hb0_
  have HB19 := Aside0.mk hb_
  have HZ19 : Aside0 (w18.heap.size ≤ w19.heap.size) := ⟨hb_.size⟩
  have HT19 := Aside0.mk (HT18.out.trans (Below.mono hb_ HT18.out.size))
  clear hb_
  have n_ := Aside0.mk (Kd.R_below HX1.out HB19.out)
  clear HX1
  have HX1 := n_
  clear n_
  have n_ := Aside0.mk (Kd.R_below HX2.out HB19.out)
  clear HX2
  have HX2 := n_
  clear n_
  have n_ := Aside0.mk (Kd.R_below HX3.out HB19.out)
  clear HX3
  have HX3 := n_
  clear n_
  have n_ := Aside0.mk (Kd.R_below HX4.out HB19.out)
  clear HX4
  have HX4 := n_
  clear n_
  have n_ := Aside0.mk (Kd.R_below HX5.out HB19.out)
  clear HX5
  have HX5 := n_
  clear n_
  have n_ := Aside0.mk (Kd.R_below HX6.out HB19.out)
  clear HX6
  have HX6 := n_
  clear n_
  have n_ := Aside0.mk (Kd.R_below HX7.out HB19.out)
  clear HX7
  have HX7 := n_
  clear n_
  have n_ := Aside0.mk (blk_below HBK2.out HB19.out)
  clear HBK2 hcz2
  have HBK2 := n_
  clear n_
  have hcz2 : w19.cell? ⟨g2, 0, none⟩ = some (.slice A0 l0.length c0) := (blk_cell HBK2.out 0).trans rfl
  have n_ := Aside0.mk (blk_below HBK8.out HB19.out)
  clear HBK8 hcz8
  have HBK8 := n_
  clear n_
  have hcz8 : w19.cell? ⟨g8, 0, none⟩ = some (.slice Aq3 l0.length cq3) := (blk_cell HBK8.out 0).trans rfl
  go_wp2_with fail
  obtain ⟨A4_, c4_, e4_, hl4_, hC4_⟩ := Kd.R_reads HX4.out
  have hcall_ := laws_heldIntS.calls k1 _ _ u7 1 m6 _ hC4_ hl4_ hy10.out
  rw [← e4_] at hcall_
  refine hcall_.mono ?_
  clear hcall_ hC4_ hl4_ e4_ c4_ A4_
  rintro e w20 ⟨rfl, hb0_⟩
  have hb_ := laws_FnExactLabelsBySum.belowD hb0_
  clear hb0_
  have HB20 := Aside0.mk hb_
  have HZ20 : Aside0 (w19.heap.size ≤ w20.heap.size) := ⟨hb_.size⟩
  have HT20 := Aside0.mk (HT19.out.trans (Below.mono hb_ HT19.out.size))
  clear hb_
  have n_ := Aside0.mk (Kd.R_below HX1.out HB20.out)
  clear HX1
  have HX1 := n_
  clear n_
  have n_ := Aside0.mk (Kd.R_below HX2.out HB20.out)
  clear HX2
  have HX2 := n_
  clear n_
  have n_ := Aside0.mk (Kd.R_below HX3.out HB20.out)
  clear HX3
  have HX3 := n_
  clear n_
  have n_ := Aside0.mk (Kd.R_below HX4.out HB20.out)
  clear HX4
  have HX4 := n_
  clear n_
  have n_ := Aside0.mk (Kd.R_below HX5.out HB20.out)
  clear HX5
  have HX5 := n_
  clear n_
  have n_ := Aside0.mk (Kd.R_below HX6.out HB20.out)
  clear HX6
  have HX6 := n_
  clear n_
  have n_ := Aside0.mk (Kd.R_below HX7.out HB20.out)
  clear HX7
  have HX7 := n_
  clear n_
  have n_ := Aside0.mk (blk_below HBK2.out HB20.out)
  clear HBK2 hcz2
  have HBK2 := n_
  clear n_
  have hcz2 : w20.cell? ⟨g2, 0, none⟩ = some (.slice A0 l0.length c0) := (blk_cell HBK2.out 0).trans rfl
  have n_ := Aside0.mk (blk_below HBK8.out HB20.out)
  clear HBK8 hcz8
  have HBK8 := n_
  clear n_
  have hcz8 : w20.cell? ⟨g8, 0, none⟩ = some (.slice Aq3 l0.length cq3) := (blk_cell HBK8.out 0).trans rfl
  go_wp2
  go_ret
  exact ⟨by first | rfl | (simp; done) | (simp [*]; done), by repeat (first | (with_reducible first | exact HT20.out | apply below_alloc | apply pw_below_drewN | apply below_drew1) | exact HT20.out)⟩
open Classical in
noncomputable def laws_FnExactLabelsBySum.f (k : Nat) (l0 : List Int) (a1 : Int) : Option Bool := if ∃ k1 : Nat, (∃ (z1 : Int), (laws_szPoset.f l0 1048576 = some z1) ∧ (decide (z1 < 0) = true)) ∨ (∃ (z1 : Int) (v2 : List Int) (v3 : Bool) (m4 : Int) (u5 : List Int) (m6 : Int) (u7 : List Int), (laws_szPoset.f l0 1048576 = some z1) ∧ (decide (z1 < 0) = false) ∧ (laws_toPoset.f k1 l0 = some l0) ∧ (spec_LabelsBySum.f k l0 a1 = some (v2, v3)) ∧ (impl_LabelsBySum.f k l0 a1 = some (v2, v3)) ∧ (laws_eqIntS.f k1 v2 v2 = some true) ∧ (laws_eqPoset.f k1 l0 l0 = some true) ∧ (laws_markPoset.f k1 l0 1 = some (m4, u5)) ∧ (decide (m4 < 0) = false) ∧ (laws_markIntS.f k1 v2 1 = some (m6, u7)) ∧ (laws_heldIntS.f k1 u7 1 = some m6) ∧ (decide (m6 < 0) = false)) then some true else none
theorem laws_FnExactLabelsBySum.calls (k : Nat) (A0 : Option Addr) (c0 : Nat) (l0 : List Int) (a1 : Int) (r : Bool) (w : World) (hr0 : Kd.C (Kd.int .i64) w A0 l0.length l0) (hc0 : l0.length ≤ c0) (h : laws_FnExactLabelsBySum.f k l0 a1 = some r) :
    Calls Try.prog 10 #[.agg #[.slice A0 l0.length c0], .int .i64 a1] w fun e w' => e = .returned (.bool r) ∧ Below w.heap.size w w' := by
  unfold laws_FnExactLabelsBySum.f at h
  split at h
  · rename_i hh
    obtain rfl := Option.some.inj h
    obtain ⟨k1, hh⟩ := hh
    rcases hh with ⟨z1, hy0, hx⟩ | ⟨z1, v2, v3, m4, u5, m6, u7, hy0, hy1, hy2, hy3, hy4, hy5, hy6, hy7, hy8, hy9, hy10, hy11⟩
    · exact laws_FnExactLabelsBySum.calls0 k k1 _ _ l0 a1 z1 w hr0 hc0 hy0 hx
    · exact laws_FnExactLabelsBySum.calls1 k k1 _ _ l0 a1 z1 v2 v3 m4 u5 m6 u7 w hr0 hc0 hy0 hy1 hy2 hy3 hy4 hy5 hy6 hy7 hy8 hy9 hy10 hy11
  · cases h
end Go.Proofs.Ytemkddgfneohhaa.F
end
