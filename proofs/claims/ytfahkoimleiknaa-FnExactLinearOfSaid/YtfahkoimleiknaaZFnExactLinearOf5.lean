/- Part 5 of the texts below the row of FnExactLinearOf: printed functions with their contracts, and plain lemmas. No condition. -/
import Derived.Test.YtfahkoimleiknaaZFnExactLinearOf4
section
namespace Go.Proofs.Ytfahkoimleiknaa.F
open Go.RowKit Go.Proofs.YtfahkoimleiknaaW.PrintWords Go.Proofs.YtfahkoimleiknaaW.PrintLast Go.Proofs.YtfahkoimleiknaaW.PrintMore
set_option linter.unusedVariables false
set_option linter.unusedSimpArgs false
theorem laws_FnExactLinearOf.belowD {w w' : World} (h : Drawn0 w w') : Below w.heap.size w w' := by
  obtain ⟨m, rfl⟩ := h
  exact pw_below_drewN (Below.refl _ _) m
set_option maxHeartbeats 8000000 in
set_option maxRecDepth 100000 in
theorem laws_FnExactLinearOf.calls0 (k k1 : Nat) (A0 : Option Addr) (c0 : Nat) (l0 : List (List Int)) (z1 : Int) (w : World) (hr0 : Kd.C (Kd.slice 3 (Kd.int .i64)) w A0 l0.length l0) (hc0 : l0.length ≤ c0) (hy0_ : laws_szIntSS.f k1 l0 1048576 = some z1) (hx : decide (z1 < 0) = true) :
    Calls Try.prog 8 #[.slice A0 l0.length c0] w fun e w' => e = .returned (.bool true) ∧ Below w.heap.size w w' := by
  have HR0 := Aside0.mk hr0
  have HC0 := Aside0.mk hc0
  clear hr0 hc0
  have hy0 := Aside0.mk hy0_
  clear hy0_
  have HT0 := Aside0.mk (Below.refl w.heap.size w)
  go_enter Try.func8, Try.ntmps8
  go_wp2_with fail
  have hcall_ := laws_szIntSS.calls k1 _ _ l0 1048576 z1 _ (Kd.C_below HR0.out HT0.out) HC0.out hy0.out
  refine hcall_.mono ?_
  clear hcall_ 
  rintro e w1 ⟨rfl, hb0_⟩
  have hb_ := laws_FnExactLinearOf.belowD hb0_
  clear hb0_
  have HB1 := Aside0.mk hb_
  have HZ1 : Aside0 (w.heap.size ≤ w1.heap.size) := ⟨hb_.size⟩
  have HT1 := Aside0.mk (HT0.out.trans (Below.mono hb_ HT0.out.size))
  clear hb_
  go_wp2
  go_ret
  exact ⟨by first | rfl | (simp; done) | (simp [*]; done), by repeat (first | (with_reducible first | exact HT1.out | apply below_alloc | apply pw_below_drewN | apply below_drew1) | exact HT1.out)⟩
set_option maxHeartbeats 8000000 in
set_option maxRecDepth 100000 in
theorem laws_FnExactLinearOf.calls1 (k k1 : Nat) (A0 : Option Addr) (c0 : Nat) (l0 : List (List Int)) (z1 : Int) (v2 : List Int) (v3 : Bool) (m4 : Int) (u5 : List (List Int)) (m6 : Int) (u7 : List Int) (w : World) (hr0 : Kd.C (Kd.slice 3 (Kd.int .i64)) w A0 l0.length l0) (hc0 : l0.length ≤ c0) (hy0_ : laws_szIntSS.f k1 l0 1048576 = some z1) (hy1 : decide (z1 < 0) = false) (hy2_ : laws_toIntSS.f k1 l0 = some l0) (hy3_ : spec_LinearOf.f k l0 = some (v2, v3)) (hy4_ : impl_LinearOf.f k l0 = some (v2, v3)) (hy5_ : laws_eqIntS.f k1 v2 v2 = some true) (hy6_ : laws_eqIntSS.f k1 l0 l0 = some true) (hy7_ : laws_markIntSS.f k1 l0 1 = some (m4, u5)) (hy8 : decide (m4 < 0) = false) (hy9_ : laws_markIntS.f k1 v2 1 = some (m6, u7)) (hy10_ : laws_heldIntS.f k1 u7 1 = some m6) (hy11 : decide (m6 < 0) = false) :
    Calls Try.prog 8 #[.slice A0 l0.length c0] w fun e w' => e = .returned (.bool true) ∧ Below w.heap.size w w' := by
  have HR0 := Aside0.mk hr0
  have HC0 := Aside0.mk hc0
  clear hr0 hc0
  have hy0 := Aside0.mk hy0_
  clear hy0_
  have hy2 := Aside0.mk hy2_
  clear hy2_
  have hy3 := Aside0.mk hy3_
  clear hy3_
  have hy4 := Aside0.mk hy4_
  clear hy4_
  have hy5 := Aside0.mk hy5_
  clear hy5_
  have hy6 := Aside0.mk hy6_
  clear hy6_
  have hy7 := Aside0.mk hy7_
  clear hy7_
  have hy9 := Aside0.mk hy9_
  clear hy9_
  have hy10 := Aside0.mk hy10_
  clear hy10_
  have HT0 := Aside0.mk (Below.refl w.heap.size w)
  go_enter Try.func8, Try.ntmps8
  go_wp2_with fail
  have hcall_ := laws_szIntSS.calls k1 _ _ l0 1048576 z1 _ (Kd.C_below HR0.out HT0.out) HC0.out hy0.out
  refine hcall_.mono ?_
  clear hcall_ 
  rintro e w1 ⟨rfl, hb0_⟩
  have hb_ := laws_FnExactLinearOf.belowD hb0_
  clear hb0_
  have HB1 := Aside0.mk hb_
  have HZ1 : Aside0 (w.heap.size ≤ w1.heap.size) := ⟨hb_.size⟩
  have HT1 := Aside0.mk (HT0.out.trans (Below.mono hb_ HT0.out.size))
  clear hb_
  go_wp2_with fail
  have hcall_ := laws_toIntSS.calls k1 _ _ l0 l0 _ (Kd.C_below HR0.out HT1.out) HC0.out hy2.out
  refine hcall_.mono ?_
  clear hcall_ 
  rintro e w2 ⟨v1x, rfl, hx1_, hb_⟩
  have HB2 := Aside0.mk hb_
  have HZ2 : Aside0 (w1.heap.size ≤ w2.heap.size) := ⟨hb_.size⟩
  have HT2 := Aside0.mk (HT1.out.trans (Below.mono hb_ HT1.out.size))
  clear hb_
  have HX1 := Aside0.mk (Kd.S_lower (Kd.S_mono (ok' := fun k_ => w1.heap.size ≤ k_ ∧ k_ < w2.heap.size) (Kd.S_bound hx1_) (fun k_ h_ => ⟨h_.2.1, h_.2.2.1⟩)) HT1.out.size)
  clear hx1_
  go_wp2_with fail
  obtain ⟨A1_, c1_, e1_, hl1_, hC1_⟩ := Kd.S_reads HX1.out
  have hcall_ := spec_LinearOf.calls k _ _ l0 v2 v3 _ hC1_ hl1_ hy3.out
  rw [← e1_] at hcall_
  refine hcall_.mono ?_
  clear hcall_ hC1_ hl1_ e1_ c1_ A1_
  rintro e w3 ⟨v2x, rfl, hx2_, hb_⟩
  have HB3 := Aside0.mk hb_
  have HZ3 : Aside0 (w2.heap.size ≤ w3.heap.size) := ⟨hb_.size⟩
  have HT3 := Aside0.mk (HT2.out.trans (Below.mono hb_ HT2.out.size))
  clear hb_
  have n_ := Aside0.mk (Kd.S_below HX1.out HB3.out)
  clear HX1
  have HX1 := n_
  clear n_
  have HX2 := Aside0.mk (Kd.R_lower (Kd.R_mono (ok' := fun k_ => w2.heap.size ≤ k_ ∧ k_ < w3.heap.size) (Kd.R_bound hx2_) (fun k_ h_ => ⟨h_.2.1, h_.2.2.1⟩)) HT2.out.size)
  clear hx2_
  go_wp2_with fail
  have hcall_ := laws_toIntSS.calls k1 _ _ l0 l0 _ (Kd.C_below HR0.out HT3.out) HC0.out hy2.out
  refine hcall_.mono ?_
  clear hcall_ 
  rintro e w4 ⟨v3x, rfl, hx3_, hb_⟩
  have HB4 := Aside0.mk hb_
  have HZ4 : Aside0 (w3.heap.size ≤ w4.heap.size) := ⟨hb_.size⟩
  have HT4 := Aside0.mk (HT3.out.trans (Below.mono hb_ HT3.out.size))
  clear hb_
  have n_ := Aside0.mk (Kd.S_below HX1.out HB4.out)
  clear HX1
  have HX1 := n_
  clear n_
  have n_ := Aside0.mk (Kd.R_below HX2.out HB4.out)
  clear HX2
  have HX2 := n_
  clear n_
  have HX3 := Aside0.mk (Kd.S_lower (Kd.S_mono (ok' := fun k_ => w3.heap.size ≤ k_ ∧ k_ < w4.heap.size) (Kd.S_bound hx3_) (fun k_ h_ => ⟨h_.2.1, h_.2.2.1⟩)) HT3.out.size)
  clear hx3_
  go_wp2_with fail
  obtain ⟨A3_, c3_, e3_, hl3_, hC3_⟩ := Kd.S_reads HX3.out
  have hcall_ := impl_LinearOf.calls k _ _ l0 v2 v3 _ hC3_ hl3_ hy4.out
  rw [← e3_] at hcall_
  refine hcall_.mono ?_
  clear hcall_ hC3_ hl3_ e3_ c3_ A3_
  rintro e w5 ⟨v4x, rfl, hx4_, hb_⟩
  have HB5 := Aside0.mk hb_
  have HZ5 : Aside0 (w4.heap.size ≤ w5.heap.size) := ⟨hb_.size⟩
  have HT5 := Aside0.mk (HT4.out.trans (Below.mono hb_ HT4.out.size))
  clear hb_
  have n_ := Aside0.mk (Kd.S_below HX1.out HB5.out)
  clear HX1
  have HX1 := n_
  clear n_
  have n_ := Aside0.mk (Kd.R_below HX2.out HB5.out)
  clear HX2
  have HX2 := n_
  clear n_
  have n_ := Aside0.mk (Kd.S_below HX3.out HB5.out)
  clear HX3
  have HX3 := n_
  clear n_
  have HX4 := Aside0.mk (Kd.R_lower (Kd.R_mono (ok' := fun k_ => w4.heap.size ≤ k_ ∧ k_ < w5.heap.size) (Kd.R_bound hx4_) (fun k_ h_ => ⟨h_.2.1, h_.2.2.1⟩)) HT4.out.size)
  clear hx4_
  go_wp2_with fail
  obtain ⟨A4_, c4_, e4_, hl4_, hC4_⟩ := Kd.R_reads HX4.out
  obtain ⟨A2_, c2_, e2_, hl2_, hC2_⟩ := Kd.R_reads HX2.out
  have hcall_ := laws_eqIntS.calls k1 _ _ v2 _ _ v2 true _ hC4_ hl4_ hC2_ hl2_ hy5.out
  rw [← e4_] at hcall_
  rw [← e2_] at hcall_
  refine hcall_.mono ?_
  clear hcall_ hC4_ hl4_ e4_ c4_ A4_ hC2_ hl2_ e2_ c2_ A2_
  rintro e w6 ⟨rfl, hb0_⟩
  have hb_ := laws_FnExactLinearOf.belowD hb0_
  clear hb0_
  have HB6 := Aside0.mk hb_
  have HZ6 : Aside0 (w5.heap.size ≤ w6.heap.size) := ⟨hb_.size⟩
  have HT6 := Aside0.mk (HT5.out.trans (Below.mono hb_ HT5.out.size))
  clear hb_
  have n_ := Aside0.mk (Kd.S_below HX1.out HB6.out)
  clear HX1
  have HX1 := n_
  clear n_
  have n_ := Aside0.mk (Kd.R_below HX2.out HB6.out)
  clear HX2
  have HX2 := n_
  clear n_
  have n_ := Aside0.mk (Kd.S_below HX3.out HB6.out)
  clear HX3
  have HX3 := n_
  clear n_
  have n_ := Aside0.mk (Kd.R_below HX4.out HB6.out)
  clear HX4
  have HX4 := n_
  clear n_
  go_wp2_with fail
  have hcall_ := laws_toIntSS.calls k1 _ _ l0 l0 _ (Kd.C_below HR0.out HT6.out) HC0.out hy2.out
  refine hcall_.mono ?_
  clear hcall_ 
  rintro e w7 ⟨v5x, rfl, hx5_, hb_⟩
  have HB7 := Aside0.mk hb_
  have HZ7 : Aside0 (w6.heap.size ≤ w7.heap.size) := ⟨hb_.size⟩
  have HT7 := Aside0.mk (HT6.out.trans (Below.mono hb_ HT6.out.size))
  clear hb_
  have n_ := Aside0.mk (Kd.S_below HX1.out HB7.out)
  clear HX1
  have HX1 := n_
  clear n_
  have n_ := Aside0.mk (Kd.R_below HX2.out HB7.out)
  clear HX2
  have HX2 := n_
  clear n_
  have n_ := Aside0.mk (Kd.S_below HX3.out HB7.out)
  clear HX3
  have HX3 := n_
  clear n_
  have n_ := Aside0.mk (Kd.R_below HX4.out HB7.out)
  clear HX4
  have HX4 := n_
  clear n_
  have HX5 := Aside0.mk (Kd.S_lower (Kd.S_mono (ok' := fun k_ => w6.heap.size ≤ k_ ∧ k_ < w7.heap.size) (Kd.S_bound hx5_) (fun k_ h_ => ⟨h_.2.1, h_.2.2.1⟩)) HT6.out.size)
  clear hx5_
  go_wp2_with fail
  obtain ⟨A3_, c3_, e3_, hl3_, hC3_⟩ := Kd.S_reads HX3.out
  obtain ⟨A5_, c5_, e5_, hl5_, hC5_⟩ := Kd.S_reads HX5.out
  have hcall_ := laws_eqIntSS.calls k1 _ _ l0 _ _ l0 true _ hC3_ hl3_ hC5_ hl5_ hy6.out
  rw [← e3_] at hcall_
  rw [← e5_] at hcall_
  refine hcall_.mono ?_
  clear hcall_ hC3_ hl3_ e3_ c3_ A3_ hC5_ hl5_ e5_ c5_ A5_
  rintro e w8 ⟨rfl, hb0_⟩
  have hb_ := laws_FnExactLinearOf.belowD hb0_
  clear hb0_
  have HB8 := Aside0.mk hb_
  have HZ8 : Aside0 (w7.heap.size ≤ w8.heap.size) := ⟨hb_.size⟩
  have HT8 := Aside0.mk (HT7.out.trans (Below.mono hb_ HT7.out.size))
  clear hb_
  have n_ := Aside0.mk (Kd.S_below HX1.out HB8.out)
  clear HX1
  have HX1 := n_
  clear n_
  have n_ := Aside0.mk (Kd.R_below HX2.out HB8.out)
  clear HX2
  have HX2 := n_
  clear n_
  have n_ := Aside0.mk (Kd.S_below HX3.out HB8.out)
  clear HX3
  have HX3 := n_
  clear n_
  have n_ := Aside0.mk (Kd.R_below HX4.out HB8.out)
  clear HX4
  have HX4 := n_
  clear n_
  have n_ := Aside0.mk (Kd.S_below HX5.out HB8.out)
  clear HX5
  have HX5 := n_
  clear n_
  go_wp2_with fail
  refine (laws_markIntSS.calls k1 (fun k_ => w3.heap.size ≤ k_ ∧ k_ < w4.heap.size) v3x l0 1 m4 u5 w _ HT8.out HX3.out hy7.out).mono ?_
  rintro e w9 ⟨rfl, hy_, hb_, hk_⟩
  have HT9 := Aside0.mk hb_
  have HK9 := Aside0.mk hk_
  have HZ9 : Aside0 (w8.heap.size ≤ w9.heap.size) := ⟨hk_.1⟩
  have HO := HX3
  have HY := Aside0.mk hy_
  clear hy_ hb_ hk_
  have n_ := Aside0.mk (Kd.S_kept HX1.out HK9.out (fun k_ h_ h2_ => by have z1 := HZ1.out; have z2 := HZ2.out; have z3 := HZ3.out; have z4 := HZ4.out; have z5 := HZ5.out; have z6 := HZ6.out; have z7 := HZ7.out; have z8 := HZ8.out; have z9 := HZ9.out; omega))
  clear HX1
  have HX1 := n_
  clear n_
  have n_ := Aside0.mk (Kd.R_kept HX2.out HK9.out (fun k_ h_ h2_ => by have z1 := HZ1.out; have z2 := HZ2.out; have z3 := HZ3.out; have z4 := HZ4.out; have z5 := HZ5.out; have z6 := HZ6.out; have z7 := HZ7.out; have z8 := HZ8.out; have z9 := HZ9.out; omega))
  clear HX2
  have HX2 := n_
  clear n_
  have n_ := Aside0.mk (Kd.R_kept HX4.out HK9.out (fun k_ h_ h2_ => by have z1 := HZ1.out; have z2 := HZ2.out; have z3 := HZ3.out; have z4 := HZ4.out; have z5 := HZ5.out; have z6 := HZ6.out; have z7 := HZ7.out; have z8 := HZ8.out; have z9 := HZ9.out; omega))
  clear HX4
  have HX4 := n_
  clear n_
  have n_ := Aside0.mk (Kd.S_kept HX5.out HK9.out (fun k_ h_ h2_ => by have z1 := HZ1.out; have z2 := HZ2.out; have z3 := HZ3.out; have z4 := HZ4.out; have z5 := HZ5.out; have z6 := HZ6.out; have z7 := HZ7.out; have z8 := HZ8.out; have z9 := HZ9.out; omega))
  clear HX5
  have HX5 := n_
  clear n_
  clear HX3 HO
  have HX3 := HY
  clear HY
  go_wp2_with fail
  obtain ⟨A4_, c4_, e4_, hl4_, hC4_⟩ := Kd.R_reads HX4.out
  obtain ⟨A2_, c2_, e2_, hl2_, hC2_⟩ := Kd.R_reads HX2.out
  have hcall_ := laws_eqIntS.calls k1 _ _ v2 _ _ v2 true _ hC4_ hl4_ hC2_ hl2_ hy5.out
  rw [← e4_] at hcall_
  rw [← e2_] at hcall_
  refine hcall_.mono ?_
  clear hcall_ hC4_ hl4_ e4_ c4_ A4_ hC2_ hl2_ e2_ c2_ A2_
  rintro e w10 ⟨rfl, hb0_⟩
  have hb_ := laws_FnExactLinearOf.belowD hb0_
  clear hb0_
  have HB10 := Aside0.mk hb_
  have HZ10 : Aside0 (w9.heap.size ≤ w10.heap.size) := ⟨hb_.size⟩
  have HT10 := Aside0.mk (HT9.out.trans (Below.mono hb_ HT9.out.size))
  clear hb_
  have n_ := Aside0.mk (Kd.S_below HX1.out HB10.out)
  clear HX1
  have HX1 := n_
  clear n_
  have n_ := Aside0.mk (Kd.R_below HX2.out HB10.out)
  clear HX2
  have HX2 := n_
  clear n_
  have n_ := Aside0.mk (Kd.S_below HX3.out HB10.out)
  clear HX3
  have HX3 := n_
  clear n_
  have n_ := Aside0.mk (Kd.R_below HX4.out HB10.out)
  clear HX4
  have HX4 := n_
  clear n_
  have n_ := Aside0.mk (Kd.S_below HX5.out HB10.out)
  clear HX5
  have HX5 := n_
  clear n_
  go_wp2_with fail
  refine (laws_markIntS.calls k1 (fun k_ => some k_ = (v4x : Value).ownBlock) v4x v2 1 m6 u7 w _ HT10.out (Kd.R_tight rfl HX4.out) hy9.out).mono ?_
  rintro e w11 ⟨rfl, hy_, hb_, hk_⟩
  have HT11 := Aside0.mk hb_
  have HK11 := Aside0.mk hk_
  have HZ11 : Aside0 (w10.heap.size ≤ w11.heap.size) := ⟨hk_.1⟩
  have HO := HX4
  have HY := Aside0.mk (Kd.R_reok rfl hy_ (fun k_ e_ => HO.out.1 k_ e_))
  clear hy_ hb_ hk_
  have n_ := Aside0.mk (Kd.S_kept HX1.out HK11.out (fun k_ h_ h2_ => by have z1 := HZ1.out; have z2 := HZ2.out; have z3 := HZ3.out; have z4 := HZ4.out; have z5 := HZ5.out; have z6 := HZ6.out; have z7 := HZ7.out; have z8 := HZ8.out; have z9 := HZ9.out; have z10 := HZ10.out; have z11 := HZ11.out; have h3_ := HO.out.1 k_ h2_.symm; omega))
  clear HX1
  have HX1 := n_
  clear n_
  have n_ := Aside0.mk (Kd.R_kept HX2.out HK11.out (fun k_ h_ h2_ => by have z1 := HZ1.out; have z2 := HZ2.out; have z3 := HZ3.out; have z4 := HZ4.out; have z5 := HZ5.out; have z6 := HZ6.out; have z7 := HZ7.out; have z8 := HZ8.out; have z9 := HZ9.out; have z10 := HZ10.out; have z11 := HZ11.out; have h3_ := HO.out.1 k_ h2_.symm; omega))
  clear HX2
  have HX2 := n_
  clear n_
  have n_ := Aside0.mk (Kd.S_kept HX3.out HK11.out (fun k_ h_ h2_ => by have z1 := HZ1.out; have z2 := HZ2.out; have z3 := HZ3.out; have z4 := HZ4.out; have z5 := HZ5.out; have z6 := HZ6.out; have z7 := HZ7.out; have z8 := HZ8.out; have z9 := HZ9.out; have z10 := HZ10.out; have z11 := HZ11.out; have h3_ := HO.out.1 k_ h2_.symm; omega))
  clear HX3
  have HX3 := n_
  clear n_
  have n_ := Aside0.mk (Kd.S_kept HX5.out HK11.out (fun k_ h_ h2_ => by have z1 := HZ1.out; have z2 := HZ2.out; have z3 := HZ3.out; have z4 := HZ4.out; have z5 := HZ5.out; have z6 := HZ6.out; have z7 := HZ7.out; have z8 := HZ8.out; have z9 := HZ9.out; have z10 := HZ10.out; have z11 := HZ11.out; have h3_ := HO.out.1 k_ h2_.symm; omega))
  clear HX5
  have HX5 := n_
  clear n_
  clear HX4 HO
  have HX4 := HY
  clear HY
  go_wp2_with fail
  obtain ⟨A4_, c4_, e4_, hl4_, hC4_⟩ := Kd.R_reads HX4.out
  have hcall_ := laws_heldIntS.calls k1 _ _ u7 1 m6 _ hC4_ hl4_ hy10.out
  rw [← e4_] at hcall_
  refine hcall_.mono ?_
  clear hcall_ hC4_ hl4_ e4_ c4_ A4_
  rintro e w12 ⟨rfl, hb0_⟩
  have hb_ := laws_FnExactLinearOf.belowD hb0_
  clear hb0_
  have HB12 := Aside0.mk hb_
  have HZ12 : Aside0 (w11.heap.size ≤ w12.heap.size) := ⟨hb_.size⟩
  have HT12 := Aside0.mk (HT11.out.trans (Below.mono hb_ HT11.out.size))
  clear hb_
  have n_ := Aside0.mk (Kd.S_below HX1.out HB12.out)
  clear HX1
  have HX1 := n_
  clear n_
  have n_ := Aside0.mk (Kd.R_below HX2.out HB12.out)
  clear HX2
  have HX2 := n_
  clear n_
  have n_ := Aside0.mk (Kd.S_below HX3.out HB12.out)
  clear HX3
  have HX3 := n_
  clear n_
  have n_ := Aside0.mk (Kd.R_below HX4.out HB12.out)
  clear HX4
  have HX4 := n_
  clear n_
  have n_ := Aside0.mk (Kd.S_below HX5.out HB12.out)
  clear HX5
  have HX5 := n_
  clear n_
  go_wp2_with fail
  have hcall_ := laws_toIntSS.calls k1 _ _ l0 l0 _ (Kd.C_below HR0.out HT12.out) HC0.out hy2.out
  refine hcall_.mono ?_
  clear hcall_ 
  rintro e w13 ⟨v6x, rfl, hx6_, hb_⟩
  have HB13 := Aside0.mk hb_
  have HZ13 : Aside0 (w12.heap.size ≤ w13.heap.size) := ⟨hb_.size⟩
  have HT13 := Aside0.mk (HT12.out.trans (Below.mono hb_ HT12.out.size))
  clear hb_
  have n_ := Aside0.mk (Kd.S_below HX1.out HB13.out)
  clear HX1
  have HX1 := n_
  clear n_
  have n_ := Aside0.mk (Kd.R_below HX2.out HB13.out)
  clear HX2
  have HX2 := n_
  clear n_
  have n_ := Aside0.mk (Kd.S_below HX3.out HB13.out)
  clear HX3
  have HX3 := n_
  clear n_
  have n_ := Aside0.mk (Kd.R_below HX4.out HB13.out)
  clear HX4
  have HX4 := n_
  clear n_
  have n_ := Aside0.mk (Kd.S_below HX5.out HB13.out)
  clear HX5
  have HX5 := n_
  clear n_
  have HX6 := Aside0.mk (Kd.S_lower (Kd.S_mono (ok' := fun k_ => w12.heap.size ≤ k_ ∧ k_ < w13.heap.size) (Kd.S_bound hx6_) (fun k_ h_ => ⟨h_.2.1, h_.2.2.1⟩)) HT12.out.size)
  clear hx6_
  go_wp2_with fail
  obtain ⟨A6_, c6_, e6_, hl6_, hC6_⟩ := Kd.S_reads HX6.out
  have hcall_ := impl_LinearOf.calls k _ _ l0 v2 v3 _ hC6_ hl6_ hy4.out
  rw [← e6_] at hcall_
  refine hcall_.mono ?_
  clear hcall_ hC6_ hl6_ e6_ c6_ A6_
  rintro e w14 ⟨v7x, rfl, hx7_, hb_⟩
  have HB14 := Aside0.mk hb_
  have HZ14 : Aside0 (w13.heap.size ≤ w14.heap.size) := ⟨hb_.size⟩
  have HT14 := Aside0.mk (HT13.out.trans (Below.mono hb_ HT13.out.size))
  clear hb_
  have n_ := Aside0.mk (Kd.S_below HX1.out HB14.out)
  clear HX1
  have HX1 := n_
  clear n_
  have n_ := Aside0.mk (Kd.R_below HX2.out HB14.out)
  clear HX2
  have HX2 := n_
  clear n_
  have n_ := Aside0.mk (Kd.S_below HX3.out HB14.out)
  clear HX3
  have HX3 := n_
  clear n_
  have n_ := Aside0.mk (Kd.R_below HX4.out HB14.out)
  clear HX4
  have HX4 := n_
  clear n_
  have n_ := Aside0.mk (Kd.S_below HX5.out HB14.out)
  clear HX5
  have HX5 := n_
  clear n_
  have n_ := Aside0.mk (Kd.S_below HX6.out HB14.out)
  clear HX6
  have HX6 := n_
  clear n_
  have HX7 := Aside0.mk (Kd.R_lower (Kd.R_mono (ok' := fun k_ => w13.heap.size ≤ k_ ∧ k_ < w14.heap.size) (Kd.R_bound hx7_) (fun k_ h_ => ⟨h_.2.1, h_.2.2.1⟩)) HT13.out.size)
  clear hx7_
  go_wp2_with fail
  obtain ⟨A7_, c7_, e7_, hl7_, hC7_⟩ := Kd.R_reads HX7.out
  obtain ⟨A2_, c2_, e2_, hl2_, hC2_⟩ := Kd.R_reads HX2.out
  have hcall_ := laws_eqIntS.calls k1 _ _ v2 _ _ v2 true _ hC7_ hl7_ hC2_ hl2_ hy5.out
  rw [← e7_] at hcall_
  rw [← e2_] at hcall_
  refine hcall_.mono ?_
  clear hcall_ hC7_ hl7_ e7_ c7_ A7_ hC2_ hl2_ e2_ c2_ A2_
  rintro e w15 ⟨rfl, hb0_⟩
  have hb_ := laws_FnExactLinearOf.belowD hb0_
  clear hb0_
  have HB15 := Aside0.mk hb_
  have HZ15 : Aside0 (w14.heap.size ≤ w15.heap.size) := ⟨hb_.size⟩
  have HT15 := Aside0.mk (HT14.out.trans (Below.mono hb_ HT14.out.size))
  clear hb_
  have n_ := Aside0.mk (Kd.S_below HX1.out HB15.out)
  clear HX1
  have HX1 := n_
  clear n_
  have n_ := Aside0.mk (Kd.R_below HX2.out HB15.out)
  clear HX2
  have HX2 := n_
  clear n_
  have n_ := Aside0.mk (Kd.S_below HX3.out HB15.out)
  clear HX3
  have HX3 := n_
  clear n_
  have n_ := Aside0.mk (Kd.R_below HX4.out HB15.out)
  clear HX4
  have HX4 := n_
  clear n_
  have n_ := Aside0.mk (Kd.S_below HX5.out HB15.out)
  clear HX5
  have HX5 := n_
  clear n_
  have n_ := Aside0.mk (Kd.S_below HX6.out HB15.out)
  clear HX6
  have HX6 := n_
  clear n_
  have n_ := Aside0.mk (Kd.R_below HX7.out HB15.out)
  clear HX7
  have HX7 := n_
  clear n_
  go_wp2_with fail
  obtain ⟨A4_, c4_, e4_, hl4_, hC4_⟩ := Kd.R_reads HX4.out
  have hcall_ := laws_heldIntS.calls k1 _ _ u7 1 m6 _ hC4_ hl4_ hy10.out
  rw [← e4_] at hcall_
  refine hcall_.mono ?_
  clear hcall_ hC4_ hl4_ e4_ c4_ A4_
  rintro e w16 ⟨rfl, hb0_⟩
  have hb_ := laws_FnExactLinearOf.belowD hb0_
  clear hb0_
  have HB16 := Aside0.mk hb_
  have HZ16 : Aside0 (w15.heap.size ≤ w16.heap.size) := ⟨hb_.size⟩
  have HT16 := Aside0.mk (HT15.out.trans (Below.mono hb_ HT15.out.size))
  clear hb_
  have n_ := Aside0.mk (Kd.S_below HX1.out HB16.out)
  clear HX1
  have HX1 := n_
  clear n_
  have n_ := Aside0.mk (Kd.R_below HX2.out HB16.out)
  clear HX2
  have HX2 := n_
  clear n_
  have n_ := Aside0.mk (Kd.S_below HX3.out HB16.out)
  clear HX3
  have HX3 := n_
  clear n_
  have n_ := Aside0.mk (Kd.R_below HX4.out HB16.out)
  clear HX4
  have HX4 := n_
  clear n_
  have n_ := Aside0.mk (Kd.S_below HX5.out HB16.out)
  clear HX5
  have HX5 := n_
  clear n_
  have n_ := Aside0.mk (Kd.S_below HX6.out HB16.out)
  clear HX6
  have HX6 := n_
  clear n_
  have n_ := Aside0.mk (Kd.R_below HX7.out HB16.out)
  clear HX7
  have HX7 := n_
  clear n_
  go_wp2
  go_ret
  exact ⟨by first | rfl | (simp; done) | (simp [*]; done), by repeat (first | (with_reducible first | exact HT16.out | apply below_alloc | apply pw_below_drewN | apply below_drew1) | exact HT16.out)⟩
open Classical in
noncomputable def laws_FnExactLinearOf.f (k : Nat) (l0 : List (List Int)) : Option Bool := if ∃ k1 : Nat, (∃ (z1 : Int), (laws_szIntSS.f k1 l0 1048576 = some z1) ∧ (decide (z1 < 0) = true)) ∨ (∃ (z1 : Int) (v2 : List Int) (v3 : Bool) (m4 : Int) (u5 : List (List Int)) (m6 : Int) (u7 : List Int), (laws_szIntSS.f k1 l0 1048576 = some z1) ∧ (decide (z1 < 0) = false) ∧ (laws_toIntSS.f k1 l0 = some l0) ∧ (spec_LinearOf.f k l0 = some (v2, v3)) ∧ (impl_LinearOf.f k l0 = some (v2, v3)) ∧ (laws_eqIntS.f k1 v2 v2 = some true) ∧ (laws_eqIntSS.f k1 l0 l0 = some true) ∧ (laws_markIntSS.f k1 l0 1 = some (m4, u5)) ∧ (decide (m4 < 0) = false) ∧ (laws_markIntS.f k1 v2 1 = some (m6, u7)) ∧ (laws_heldIntS.f k1 u7 1 = some m6) ∧ (decide (m6 < 0) = false)) then some true else none
theorem laws_FnExactLinearOf.calls (k : Nat) (A0 : Option Addr) (c0 : Nat) (l0 : List (List Int)) (r : Bool) (w : World) (hr0 : Kd.C (Kd.slice 3 (Kd.int .i64)) w A0 l0.length l0) (hc0 : l0.length ≤ c0) (h : laws_FnExactLinearOf.f k l0 = some r) :
    Calls Try.prog 8 #[.slice A0 l0.length c0] w fun e w' => e = .returned (.bool r) ∧ Below w.heap.size w w' := by
  unfold laws_FnExactLinearOf.f at h
  split at h
  · rename_i hh
    obtain rfl := Option.some.inj h
    obtain ⟨k1, hh⟩ := hh
    rcases hh with ⟨z1, hy0, hx⟩ | ⟨z1, v2, v3, m4, u5, m6, u7, hy0, hy1, hy2, hy3, hy4, hy5, hy6, hy7, hy8, hy9, hy10, hy11⟩
    · exact laws_FnExactLinearOf.calls0 k k1 _ _ l0 z1 w hr0 hc0 hy0 hx
    · exact laws_FnExactLinearOf.calls1 k k1 _ _ l0 z1 v2 v3 m4 u5 m6 u7 w hr0 hc0 hy0 hy1 hy2 hy3 hy4 hy5 hy6 hy7 hy8 hy9 hy10 hy11
  · cases h
end Go.Proofs.Ytfahkoimleiknaa.F
end
