/- Part 4 of the texts below the row of FnExactLabelPolynomialAt: printed functions with their contracts, and plain lemmas. No condition. -/
import Derived.Test.YtemkddgfneohhaaZFnExactLabelPolynomialAt3
import Derived.LoopTactic
import Derived.Deep.LoopGhost
import Derived.Deep.RegionHeld3
import Derived.OneCell
section
namespace Go.Proofs.Ytemkddgfneohhaa.F
open Go.RowKit Go.Maps Go.Proofs.YtemkddgfneohhaaW.PrintWords Go.Proofs.YtemkddgfneohhaaW.PrintLast Go.Proofs.YtemkddgfneohhaaW.PrintMore
set_option linter.unusedVariables false
set_option linter.unusedSimpArgs false
/-- Whether a set is part of another one, and what comes in is no empty set and an antichain. -/
def stpB (k : Nat) (p : List Int) (s t : Int) : Bool := (Go.bits .andNot .i64 s t == 0) && ((Go.bits .andNot .i64 t s != 0) && ((impl_Poset_top.f k p (Go.bits .andNot .i64 t s)).getD 0 == Go.bits .andNot .i64 t s))
def stpOk (k : Nat) (p : List Int) (ids : List Int) : Bool := ids.all fun t => ids.all fun s => (impl_Poset_top.f k p (Go.bits .andNot .i64 t s)).isSome
def stpOuts (k : Nat) (p ids : List Int) (al : Int) (n : Nat) : List Int := (List.range n).map fun j => cntAt (stpB k p) ids (j + 1) al
def impl_Poset_steps.f (k : Nat) (l0_0 : List Int) : Option (List Int) := (impl_Poset_ideals.f k l0_0).bind fun ids => (impl_Poset_all.f l0_0).bind fun al => if cntOk ids = true ∧ (al ∈ ids ∧ l0_0.length ≤ 1000) ∧ stpOk k l0_0 ids = true then some (stpOuts k l0_0 ids al l0_0.length) else none
theorem stp_top {k : Nat} {p ids : List Int} (h : stpOk k p ids = true) {s t : Int} (hs : s ∈ ids) (ht : t ∈ ids) : ∃ r, impl_Poset_top.f k p (Go.bits .andNot .i64 t s) = some r := by
  have := List.all_eq_true.1 (List.all_eq_true.1 h t ht) s hs
  exact Option.isSome_iff_exists.1 this
theorem cntAt_congr {B B' : Int → Int → Bool} {ids : List Int} (h : ∀ s ∈ ids, ∀ t ∈ ids, B s t = B' s t) : ∀ j, ∀ t ∈ ids, cntAt B ids j t = cntAt B' ids j t
  | 0, _, _ => rfl
  | j + 1, t, ht => by
    unfold cntAt cntNew
    congr 1
    exact mpTot_congr fun s hs => by rw [h s hs t ht, cntAt_congr h j s hs]
theorem impl_Poset_steps.mono : ∀ a0 k, LeO (impl_Poset_steps.f k a0) (impl_Poset_steps.f (k + 1) a0) := fun p k => by
  unfold impl_Poset_steps.f
  refine LeO.bind (impl_Poset_ideals.mono _ _) (fun ids => LeO.bind (LeO.refl _) (fun al => ?_))
  intro r h
  split at h
  rotate_left
  · cases h
  rename_i hc
  have hB : ∀ s ∈ ids, ∀ t ∈ ids, stpB k p s t = stpB (k + 1) p s t := fun s hs t ht => by
    obtain ⟨x, hx⟩ := stp_top hc.2.2 hs ht
    unfold stpB
    rw [hx, impl_Poset_top.mono _ _ _ _ hx]
  have hok : stpOk (k + 1) p ids = true := List.all_eq_true.2 fun t ht => List.all_eq_true.2 fun s hs => by
    obtain ⟨x, hx⟩ := stp_top hc.2.2 hs ht
    rw [impl_Poset_top.mono _ _ _ _ hx]; rfl
  rw [if_pos ⟨hc.1, hc.2.1, hok⟩, ← h]
  congr 1
  exact List.map_congr_left fun j _ => (cntAt_congr hB (j + 1) al hc.2.1.1).symm
theorem stp_snoc (k : Nat) (p ids : List Int) (al : Int) (q : Nat) : stpOuts k p ids al q ++ [cntAt (stpB k p) ids (q + 1) al] = stpOuts k p ids al (q + 1) := by
  unfold stpOuts
  rw [List.range_succ, List.map_append]; rfl
set_option maxHeartbeats 8000000 in
set_option maxRecDepth 100000 in
theorem impl_Poset_steps.calls (k : Nat) (A0_0 : Option Addr) (c0_0 : Nat) (l0_0 : List Int) (r : List Int) (w : World) (hr0_0 : Kd.C (Kd.int .i64) w A0_0 l0_0.length l0_0) (hc0_0 : l0_0.length ≤ c0_0) (h : impl_Poset_steps.f k l0_0 = some r) :
    Calls Try.prog 54 #[.agg #[.slice A0_0 l0_0.length c0_0]] w fun e w' => ∃ v0_ : Value, e = .returned (v0_) ∧ Kd.R (Kd.int .i64) 3 w' w.heap.size (fun _ => True) v0_ r ∧ Below w.heap.size w w' := by
  have hu30 := Try.underlying30
  have hmm := @run_makeMap Try.prog
  unfold impl_Poset_steps.f at h
  obtain ⟨ids, hid, h⟩ := Option.bind_eq_some_iff.1 h
  obtain ⟨al, hal, h⟩ := Option.bind_eq_some_iff.1 h
  split at h
  rotate_left
  · cases h
  rename_i hok
  have h := Option.some.inj h
  obtain ⟨hnd, h0, hlen, hwf⟩ := cntOk_parts hok.1
  obtain ⟨⟨halm, hn⟩, htop⟩ := hok.2
  obtain ⟨n, hpn⟩ : ∃ n, n = l0_0.length := ⟨_, rfl⟩
  have hpos : 0 < ids.length := List.length_pos_of_mem h0
  have HRES := Aside0.mk h
  have HID := Aside0.mk hid
  have HAL := Aside0.mk hal
  have HALM := Aside0.mk halm
  have HTOP := Aside0.mk htop
  have HND := Aside0.mk hnd
  have HZ := Aside0.mk h0
  have HLEN := Aside0.mk hlen
  have HWF := Aside0.mk hwf
  have HM : Aside0 (n ≤ 1000) := ⟨by omega⟩
  have HPN := Aside0.mk hpn
  have HP := Aside0.mk hpos
  have HR0 := Aside0.mk hr0_0
  have HC := Aside0.mk hc0_0
  clear h hid hal halm htop hnd h0 hlen hwf hn hpn hpos hr0_0 hc0_0 hok
  obtain ⟨w0, hw0⟩ : ∃ W, W = (w.alloc (.cells #[.slice A0_0 l0_0.length c0_0] 30 (0, 0))) := ⟨_, rfl⟩
  have hP0 : w0.heap[w.heap.size]? = some (.cells #[.slice A0_0 l0_0.length c0_0] 30 (0, 0)) := by rw [hw0]; exact blk_new w _
  have hB0 : Below w.heap.size w w0 := by rw [hw0]; exact below_alloc (Below.refl w.heap.size w) _
  have HIDC : Aside0 (Calls Try.prog 67 #[.agg #[.slice A0_0 l0_0.length c0_0]] (w.alloc (.cells #[.slice A0_0 l0_0.length c0_0] 30 (0, 0))) fun e w' => ∃ v0_ : Value, e = .returned v0_ ∧ Kd.R (Kd.int .i64) 3 w' w0.heap.size (fun _ => True) v0_ ids ∧ Below w0.heap.size w0 w') := ⟨by rw [← hw0]; exact impl_Poset_ideals.calls k A0_0 c0_0 l0_0 ids w0 (Kd.C_below HR0.out hB0) HC.out HID.out⟩
  have HP0 := Aside0.mk hP0
  have HB0 := Aside0.mk hB0
  clear hw0 hP0 hB0
  go_enter Try.func54, Try.ntmps54
  go_wp2_with (first
    | (go_at_call 67; (with_reducible refine HIDC.out.mono ?_); rintro e w1 ⟨vi, rfl, hr1, hb1⟩; obtain ⟨g, cap, rfl, hgb, hgl, _⟩ := Kd.R_form hr1 HP.out; have HR1 := Aside0.mk hr1; have HB1 := Aside0.mk (HB0.out.trans (hb1.mono HB0.out.size)); have HPX := Aside0.mk (blk_below HP0.out hb1); clear hr1 hb1 hgb)
    | (refine wpList_insert_own _ rfl (.tmp 14) (.const (.int .i64 0)) (.const (.int .i64 1)) 68 rfl 3 3 mp_law Try.underlying68 (plainElem (H := Unit) Try.prog 3) w1.heap.size 0 _ rfl (World.ownsMap_made w1 Try.prog 3 _) (by unfold maxLen; omega) (.int .i64 0) (.int .i64 1) (.int .i64 0) rfl rfl (keyOf_int_mk Try.underlying3 (by decide)) (.lit (.int .i64 1)) [] (plainElem_int Try.underlying3 (by decide)) ?_; intro w2 hown2 hgrow2; have HMAP := Aside0.mk (mp_norm mp_law hown2 (cnt_first (B := stpB k l0_0) ids HZ.out)); have HB2 := Aside0.mk (((Below.refl w1.heap.size w1).alloc (Nat.le_refl _) (.map #[] 0)).grown hgrow2 (by simp) (fun j hj => by cases hj; exact Nat.le_refl _)); have hcp2 : (w2.alloc (.cells #[] 3 (0, 0))).cell? ⟨w.heap.size, 0, none⟩ = some (.slice A0_0 l0_0.length c0_0) := (blk_cell (blk_alloc (blk_below HPX.out HB2.out) _) 0).trans rfl; clear hown2 hgrow2)
    | (go_at_call 70; (with_reducible refine (impl_Poset_n.calls A0_0 c0_0 l0_0 (l0_0.length : Int) _ (Kd.C_below HR0.out (HB1.out.trans ((HB2.out.alloc HB2.out.size _).mono HB1.out.size))) HC.out rfl).mono ?_); rintro e w3 ⟨rfl, hb3⟩; have HB3 := Aside0.mk hb3; clear hb3)
    | go_in)
  have HB31 : Aside0 (Below w1.heap.size w1 w3) := ⟨(HB2.out.alloc HB2.out.size _).trans (HB3.out.mono (by have := HB2.out.size; simp; omega))⟩
  have HMAP3 : Aside0 (w3.ownsMap Try.prog 3 (plainElem (H := Unit) Try.prog 3) w1.heap.size ids.length ((DataW.map []).put (.int .i64 0) (.lit (.int .i64 1)))) := ⟨(HMAP.out.alloc _).kept (mp_grown HB3.out) (by simp)⟩
  have HVO3 : Aside0 (Kd.R (Kd.int .i64) 3 w3 w1.heap.size (fun _ => True) (.slice (some ⟨w2.heap.size, 0, none⟩) 0 0) (stpOuts k l0_0 ids al 0)) := ⟨Kd.R_below (mp_emptyR (Kd.int .i64) HB2.out.size (blk_new w2 _) trivial) HB3.out⟩
  have HW12 : Aside0 (w1.heap.size ≤ w2.heap.size) := ⟨HB2.out.size⟩
  clear HB2 HB3 HMAP hcp2 hmm
  have hmm := @run_makeMap Try.prog
  go_loopg [4, 5, 19] (l0_0.length + 1) (fun kq v4 vo v19 w' => ∃ (q b : Nat) (D : DataW Unit), v4 = .map (some b) ∧ v19 = .int .i64 (q : Int) ∧ Aside0 (kq + q = l0_0.length + 1 ∧ q ≤ l0_0.length) ∧ Aside0 (w1.heap.size ≤ b) ∧ Aside0 (w'.ownsMap Try.prog 3 (plainElem Try.prog 3) b ids.length D) ∧ Aside0 (MpReads D ids (cntAt (stpB k l0_0) ids q)) ∧ Aside0 (Kd.R (Kd.int .i64) 3 w' w1.heap.size (fun _ => True) vo (stpOuts k l0_0 ids al q)) ∧ Aside0 (Below w1.heap.size w1 w'))
  case atStart => exact ⟨0, _, _, rfl, rfl, ⟨rfl, Nat.zero_le _⟩, ⟨Nat.le_refl _⟩, HMAP3, ⟨cnt_first ids HZ.out⟩, HVO3, HB31⟩
  case round =>
    obtain ⟨q, b, D, rfl, rfl, HK, HBB, HD, HRD, HVO, HBW⟩ := hrel
    obtain ⟨WA, rfl⟩ : ∃ x, x = wr := ⟨wr, rfl⟩
    cases gk with
    | zero => exact absurd HK.out (by omega)
    | succ k1 =>
      clear HMAP3 HVO3 HB31
      by_cases hq : q < l0_0.length
      · have d1 : decide ((q : Int) < (l0_0.length : Int)) = true := decide_eq_true (by omega)
        have d2 : decide (q < l0_0.length) = true := decide_eq_true hq
        have d3 := eq_true hq
        have HQ := Aside0.mk hq
        clear hq
        go_wp2_with (fail)
        clear d1 d2 d3
        go_loopg [24] (ids.length + 1) (fun kq v24 w' => ∃ (i : Nat) (D1 : DataW Unit), v24 = .int .i64 (i : Int) ∧ Aside0 (kq + i = ids.length + 1 ∧ i ≤ ids.length) ∧ Aside0 (w'.ownsMap Try.prog 3 (plainElem Try.prog 3) WA.heap.size ids.length D1) ∧ Aside0 (MpReads D1 ids (cntMid (stpB k l0_0) ids (cntAt (stpB k l0_0) ids q) i)) ∧ Aside0 (w'.ownsMap Try.prog 3 (plainElem Try.prog 3) b ids.length D) ∧ Aside0 (Kd.R (Kd.int .i64) 3 w' w1.heap.size (fun _ => True) u5 (stpOuts k l0_0 ids al q)) ∧ Aside0 (Below w1.heap.size w1 w'))
        case atStart => exact ⟨0, _, rfl, ⟨rfl, Nat.zero_le _⟩, ⟨(World.ownsMap_made WA Try.prog 3 _).mono (Nat.zero_le _)⟩, ⟨cnt_mid0 ids _⟩, ⟨HD.out.alloc _⟩, ⟨Kd.R_alloc HVO.out _⟩, ⟨HBW.out.alloc HBW.out.size _⟩⟩
        case round =>
          obtain ⟨i, D1, rfl, HK2, HD1, HRD1, HD0, HVO1, HBW1⟩ := hrel
          obtain ⟨WB, rfl⟩ : ∃ x, x = wr := ⟨wr, rfl⟩
          cases gk with
          | zero => exact absurd HK2.out (by omega)
          | succ k2 =>
            by_cases hi : i < ids.length
            · have hcell := mp_cell HR1.out HBW1.out i hi
              have hmem : ids.getD i 0 ∈ ids := by rw [List.getD_eq_getElem?_getD, List.getElem?_eq_getElem hi]; exact List.getElem_mem hi
              have HT := Aside0.mk (cnt_notyet HND.out hi)
              obtain ⟨t, ht⟩ : ∃ t, t = ids.getD i 0 := ⟨_, rfl⟩
              rw [← ht] at hcell hmem HT
              have HTE := Aside0.mk ht
              have HTM := Aside0.mk hmem
              clear ht hmem
              have e1 : (0 : Int) ≤ (i : Int) := by omega
              have e2 : (i : Int) < (ids.length : Int) := by omega
              have e3 : decide ((i : Int) < (ids.length : Int)) = true := decide_eq_true e2
              have e4 : decide (i < ids.length) = true := decide_eq_true hi
              have e5 := eq_true hi
              have HI := Aside0.mk hi
              clear hi
              go_wp2_with (first
                | (at_range; refine wpList_range_own _ rfl _ 68 rfl 3 3 mp_law Try.underlying68 _ b ids.length D rfl HD0.out ?_; intro w0' hrg0 hg0 hs0; have HRG0 := Aside0.mk hrg0; have HG0 := Aside0.mk hg0; clear hrg0 hg0 hs0)
                | go_in)
              go_frame
              clear hcell e1 e2 e3 e4 e5
              go_loopg [9] (Maps.size D + 1) (fun kq _ w' => ∃ (left : Lit → Bool) (cnt : Nat) (D2 : DataW Unit), Aside0 (kq = cnt + 1) ∧ Aside0 (w'.ranges Try.prog 3 (plainElem Try.prog 3) b WB.heap.size ids.length D left cnt) ∧ Aside0 (w'.ownsMap Try.prog 3 (plainElem Try.prog 3) WA.heap.size ids.length D2) ∧ Aside0 (MpReads D2 ids (cntIn (stpB k l0_0) ids (cntAt (stpB k l0_0) ids q) i t left)) ∧ Aside0 (Kd.R (Kd.int .i64) 3 w' w1.heap.size (fun _ => True) u5 (stpOuts k l0_0 ids al q)) ∧ Aside0 (Below w1.heap.size w1 w'))
              case atStart => exact ⟨_, _, _, ⟨rfl⟩, HRG0, ⟨HD1.out.kept HG0.out (by simp)⟩, ⟨cnt_start HRD.out HRD1.out HT.out⟩, ⟨Kd.R_grown HVO1.out HG0.out (by simp)⟩, ⟨HBW1.out.grown HG0.out HBW1.out.size (fun j hj => by cases hj)⟩⟩
              case round =>
                obtain ⟨left, cnt, D2, HK3, HRG, HD2, HRD2, HVO2, HBW2⟩ := hrel
                obtain ⟨WC, rfl⟩ : ∃ x, x = wr := ⟨wr, rfl⟩
                have HNE : Aside0 (WB.heap.size ≠ b ∧ WB.heap.size ≠ WA.heap.size ∧ w1.heap.size ≤ WA.heap.size ∧ w1.heap.size ≤ WB.heap.size ∧ WA.heap.size ≠ b) := ⟨by have h1 := HD0.out.lt; have h2 := HD1.out.lt; have h3 := HBW.out.size; have h4 := HBW1.out.size; have h5 := HD.out.lt; omega⟩
                go_wp2_with (first
                  | (at_next; refine wpList_next_ranges_ii _ rfl _ rfl 3 3 .i64 .i64 mp_law Try.underlying3 Try.underlying3 b WB.heap.size ids.length D left cnt rfl HRG.out ?_ ?_)
                  | go_in)
                · intro hc0 hl0
                  have hwi : wrap64 ((i : Int) + 1) = ((i + 1 : Nat) : Int) := by unfold wrap64; have := HI.out; have := HLEN.out; omega
                  have HL0 := Aside0.mk hl0
                  clear hc0 hl0
                  go_wp2_with (fail)
                  go_roundg k2
                  case measure => omega
                  case rel =>
                    refine ⟨i + 1, D2, by rw [hwi], ⟨by have := HK2.out; have := HI.out; omega⟩, HD2, ⟨cnt_end HND.out HI.out HL0.out (by have := HRD2.out; rwa [HTE.out] at this)⟩, ⟨HRG.out.owns⟩, HVO2, HBW2⟩
                · intro x c wn cnt1 hwx hwc hlx hat hrg1 hlt hg1 hs1 hen
                  have HXV := Aside0.mk (mp_val HRD.out (Maps.has_true_of_atKey hat) hat)
                  have HLX := Aside0.mk hlx
                  have HRG1 := Aside0.mk hrg1
                  have HLT := Aside0.mk hlt
                  have HVO3 := Aside0.mk (mp_iter_kept HVO2.out HRG.out hg1)
                  have HD2' := Aside0.mk (HD2.out.kept hg1 (by have := HNE.out; intro e; have := Option.some.inj e; omega))
                  have HBW3 := Aside0.mk (HBW2.out.grown hg1 HBW2.out.size (fun j hj => by cases hj; exact HNE.out.2.2.2.1))
                  have hcpn : wn.cell? ⟨w.heap.size, 0, none⟩ = some (.slice A0_0 l0_0.length c0_0) := (blk_cell (blk_below HPX.out HBW3.out) 0).trans rfl
                  clear hwx hwc hlx hat hrg1 hlt hg1 hs1
                  cases hb1 : (Go.bits .andNot .i64 x t == 0) with
                  | false =>
                    have HB0 : Aside0 (stpB k l0_0 x t = false) := ⟨by unfold stpB; rw [hb1]; rfl⟩
                    go_wp2_with (fail)
                    go_roundg (cnt1 + 1)
                    case measure => have := HK3.out; have := HLT.out; omega
                    case rel => exact ⟨_, cnt1, D2, ⟨rfl⟩, HRG1, HD2', ⟨cnt_skip HND.out HXV.out.1 HLX.out HB0.out HRD2.out⟩, HVO3, HBW3⟩
                  | true =>
                    cases hb2 : (Go.bits .andNot .i64 t x != 0) with
                    | false =>
                      have HB0 : Aside0 (stpB k l0_0 x t = false) := ⟨by unfold stpB; rw [hb1, hb2]; rfl⟩
                      have hb2' : (Go.bits .andNot .i64 t x == 0) = true := by simpa [bne] using hb2
                      go_wp2_with (fail)
                      go_roundg (cnt1 + 1)
                      case measure => have := HK3.out; have := HLT.out; omega
                      case rel => exact ⟨_, cnt1, D2, ⟨rfl⟩, HRG1, HD2', ⟨cnt_skip HND.out HXV.out.1 HLX.out HB0.out HRD2.out⟩, HVO3, HBW3⟩
                    | true =>
                      have hb2' : (Go.bits .andNot .i64 t x == 0) = false := by simpa [bne] using hb2
                      obtain ⟨rt, hrt⟩ := stp_top HTOP.out HXV.out.1 HTM.out
                      have HRT := Aside0.mk hrt
                      clear hrt
                      cases hb3 : (rt == Go.bits .andNot .i64 t x) with
                      | false =>
                        have HB0 : Aside0 (stpB k l0_0 x t = false) := ⟨by unfold stpB; rw [hb1, hb2, HRT.out, Option.getD_some, hb3]; rfl⟩
                        go_wp2_with (go_at_call 73; (with_reducible refine (impl_Poset_top.calls k A0_0 c0_0 l0_0 _ rt _ (Kd.C_below HR0.out (HB1.out.trans (HBW3.out.mono HB1.out.size))) HC.out HRT.out).mono ?_); rintro e w5 ⟨rfl, hb5⟩; have HB5 := Aside0.mk hb5; clear hb5)
                        go_roundg (cnt1 + 1)
                        case measure => have := HK3.out; have := HLT.out; omega
                        case rel => exact ⟨_, cnt1, D2, ⟨rfl⟩, ⟨HRG1.out.kept (mp_grown HB5.out) (by simp) (by simp)⟩, ⟨HD2'.out.kept (mp_grown HB5.out) (by simp)⟩, ⟨cnt_skip HND.out HXV.out.1 HLX.out HB0.out HRD2.out⟩, ⟨Kd.R_below HVO3.out HB5.out⟩, ⟨HBW3.out.trans (HB5.out.mono HBW3.out.size)⟩⟩
                      | true =>
                        have HB0 : Aside0 (stpB k l0_0 x t = true) := ⟨by unfold stpB; rw [hb1, hb2, HRT.out, Option.getD_some, hb3]; rfl⟩
                        go_wp2_with (first
                          | (go_at_call 73; (with_reducible refine (impl_Poset_top.calls k A0_0 c0_0 l0_0 _ rt _ (Kd.C_below HR0.out (HB1.out.trans (HBW3.out.mono HB1.out.size))) HC.out HRT.out).mono ?_); rintro e w5 ⟨rfl, hb5⟩; have HB5 := Aside0.mk hb5; have HD5 := Aside0.mk (HD2'.out.kept (mp_grown hb5) (by simp)); clear hb5)
                          | (at_lookup; refine wpList_lookup_own_int _ rfl _ _ 68 rfl 3 3 .i64 mp_law Try.underlying68 Try.underlying3 (mp_zero _) WA.heap.size ids.length D2 rfl HD5.out _ _ rfl (keyOf_int_mk Try.underlying3 (mp_wf (HWF.out t HTM.out))) ?_; intro c0 hat0 hwc0; have HAT0 := Aside0.mk hat0; clear hat0 hwc0)
                          | (at_mapUpdate; refine wpList_mapUpdate_own _ rfl _ _ _ 68 rfl 3 3 mp_law Try.underlying68 _ WA.heap.size ids.length D2 rfl HD5.out (by have := HLEN.out; unfold maxLen; omega) _ _ _ rfl rfl (keyOf_int_mk Try.underlying3 (mp_wf (HWF.out t HTM.out))) _ [] (plainElem_int Try.underlying3 (wrap64_wf _)) ?_; intro w4 hown4 hgrow4; have HD4 := Aside0.mk hown4; have HG4 := Aside0.mk hgrow4; clear hown4 hgrow4)
                          | go_in)
                        have HRD4 := Aside0.mk (cnt_add (B := stpB k l0_0) (i := i) (v := cntAt (stpB k l0_0) ids q) HND.out HTM.out HXV.out.1 HXV.out.2 HLX.out HB0.out HD5.out.isMap HRD2.out HAT0.out)
                        go_roundg (cnt1 + 1)
                        case measure => have := HK3.out; have := HLT.out; omega
                        case rel => exact ⟨_, cnt1, _, ⟨rfl⟩, ⟨(HRG1.out.kept (mp_grown HB5.out) (by simp) (by simp)).kept HG4.out (by have := HNE.out; intro e; have := Option.some.inj e; omega) (by have := HNE.out; intro e; have := Option.some.inj e; omega)⟩, ⟨mp_norm mp_law HD4.out HRD4.out⟩, HRD4, ⟨mp_row_kept (Kd.R_below HVO3.out HB5.out) HD5.out HG4.out⟩, ⟨(HBW3.out.trans (HB5.out.mono HBW3.out.size)).grown HG4.out (by have := HBW3.out.size; have := HB5.out.size; omega) (fun j hj => by cases hj; exact HNE.out.2.2.1)⟩⟩
            · have hi' : i = ids.length := by have := HK2.out; omega
              have e3 : decide ((i : Int) < (ids.length : Int)) = false := decide_eq_false (by omega)
              have e4 : decide (i < ids.length) = false := decide_eq_false hi
              have e5 : (i < ids.length) = False := eq_false hi
              have hwq : wrap64 ((q : Int) + 1) = ((q + 1 : Nat) : Int) := by unfold wrap64; have := HQ.out; have := HM.out; have := HPN.out; omega
              have HE := Aside0.mk hi'
              have HRDN := Aside0.mk (cnt_done (by have := HRD1.out; rwa [hi'] at this))
              have hcpB : WB.cell? ⟨w.heap.size, 0, none⟩ = some (.slice A0_0 l0_0.length c0_0) := (blk_cell (blk_below HPX.out HBW1.out) 0).trans rfl
              clear hi hi'
              go_wp2_with (first
                | (go_at_call 74; (with_reducible refine (impl_Poset_all.calls A0_0 c0_0 l0_0 al _ (Kd.C_below HR0.out (HB1.out.trans (HBW1.out.mono HB1.out.size))) HC.out HAL.out).mono ?_); rintro e w6 ⟨rfl, hb6⟩; have HD6 := Aside0.mk (HD1.out.kept (mp_grown hb6) (by simp)); have HVO6 := Aside0.mk (Kd.R_below HVO1.out hb6); have HB6 := Aside0.mk (HBW1.out.trans (hb6.mono HBW1.out.size)); clear hb6)
                | (at_lookup; refine wpList_lookup_own_int _ rfl _ _ 68 rfl 3 3 .i64 mp_law Try.underlying68 Try.underlying3 (mp_zero _) WA.heap.size ids.length D1 rfl HD6.out _ _ rfl (keyOf_int_mk Try.underlying3 (mp_wf (HWF.out al HALM.out))) ?_; intro c0 hat0 hwc0; have HAT0 := Aside0.mk hat0; clear hat0 hwc0)
                | ((with_reducible refine gate_builtin (b := .append) (xs := #[.tmp 60, .tmp 65]) rfl ?_); at_builtin; refine Kd.R_append (Kd.int .i64) (w0 := w1) w1.heap.size rfl (.tmp 60) (.tmp 65) 25 3 (.int .i64 0) 8 rfl Try.underlying25 info3 rfl (by decide) (by omega) u5 (stpOuts k l0_0 ids al q) c0 [.int .i64 c0] (fun _ => True) (fun _ => False) rfl rfl ?aP (fun _ hk => hk.elim) (fun _ _ => trivial) ?aO ?aB ?aS ?aL ?_; (case aP => exact rfl); (case aO => exact HVO6.out); (case aB => exact HB6.out); (case aS => exact HB6.out.size); (case aL => have := HQ.out; have := HM.out; have := HPN.out; unfold stpOuts; rw [List.length_map, List.length_range]; omega); intro v7 w7 hr7 hb7 hg7 hat7; have HVO7 := Aside0.mk hr7; have HB7 := Aside0.mk hb7; have HD7 := Aside0.mk (HD6.out.kept hg7 (mp_apart HVO6.out HD6.out)); clear hr7 hb7 hg7 hat7)
                | go_in)
              have HC0 : Aside0 (c0 = cntAt (stpB k l0_0) ids (q + 1) al) := ⟨by
                have := HRDN.out.at_ al HALM.out
                rw [HAT0.out] at this
                injection this with this
                injection this with _ this⟩
              go_roundg k1
              case measure => omega
              case rel => exact ⟨q + 1, _, D1, rfl, by rw [hwq], ⟨by have := HK.out; have := HQ.out; omega⟩, ⟨HBW.out.size⟩, HD7, HRDN, ⟨by have := HVO7.out; rwa [HC0.out, stp_snoc] at this⟩, HB7⟩
      · have HQE : Aside0 (q = l0_0.length) := ⟨by have := HK.out; omega⟩
        have d1 : decide ((q : Int) < (l0_0.length : Int)) = false := decide_eq_false (by omega)
        have d2 : decide (q < l0_0.length) = false := decide_eq_false hq
        have d3 : (q < l0_0.length) = False := eq_false hq
        clear hq
        go_wp2_with (fail)
        go_ret
        refine ⟨_, rfl, ?_, HB1.out.trans (HBW.out.mono HB1.out.size)⟩
        have := HVO.out
        rw [HQE.out, HRES.out] at this
        exact Kd.R_lower this HB1.out.size
end Go.Proofs.Ytemkddgfneohhaa.F
end

section
namespace Go.Proofs.Ytemkddgfneohhaa.F
open Go.RowKit Go.Proofs.YtemkddgfneohhaaW.PrintWords Go.Proofs.YtemkddgfneohhaaW.PrintLast Go.Proofs.YtemkddgfneohhaaW.PrintMore
attribute [local go_sem] max2_int min2_int max_two min_two max_three min_three max_four min_four
set_option linter.unusedVariables false
set_option linter.unusedSimpArgs false

/-! ### impl_Poset_polynomial: function 49 -/
def impl_Poset_polynomial.l0 : Nat → Int → Int → Int → List Int → Int → Int → Option (Int)
  | 0, _, _, _, _, _, _ => none
  | k + 1, x1, x5, x6, x10, x11, x12 => if x12 < x11 then (if 0 ≤ x12 then (if x12 < (x10.length : Int) then (if (wrap64 (x12 + 1)) = 0 then (none) else (impl_Poset_polynomial.l0 k x1 (wrap64 (x5 + (wrap64 ((rd x10 x12) * (wrap64 (Int.tdiv (wrap64 (x6 * (wrap64 (x1 - x12)))) (wrap64 (x12 + 1)))))))) (wrap64 (Int.tdiv (wrap64 (x6 * (wrap64 (x1 - x12)))) (wrap64 (x12 + 1)))) x10 x11 (wrap64 (x12 + 1)))) else (none)) else (none)) else (some x5)
def impl_Poset_polynomial.f (k : Nat) (l0_0 : List Int) (a1 : Int) : Option (Int) := (impl_Poset_steps.f k l0_0).bind fun t257 => (impl_Poset_polynomial.l0 k a1 0 1 t257 (t257.length : Int) 0)
theorem impl_Poset_polynomial.mono_l : ∀ k, (∀ y0 y1 y2 y3 y4 y5, LeO (impl_Poset_polynomial.l0 k y0 y1 y2 y3 y4 y5) (impl_Poset_polynomial.l0 (k + 1) y0 y1 y2 y3 y4 y5))
  | 0 => fun _ _ _ _ _ _ r h => by simp [impl_Poset_polynomial.l0] at h
  | k + 1 => by
    have ih0 := impl_Poset_polynomial.mono_l k
    · intro y0 y1 y2 y3 y4 y5
      unfold impl_Poset_polynomial.l0
      repeat' first
      | (with_reducible exact ih0 _ _ _ _ _ _)
      | (with_reducible exact impl_Poset_steps.mono _ _)
      | (with_reducible exact LeO.refl _)
      | (with_reducible exact LeO.none _)
      | (with_reducible refine LeO.ite ?_ ?_)
      | (with_reducible refine LeO.bind ?_ (fun _ => ?_))
      | exact ih0 _ _ _ _ _ _
      | exact impl_Poset_steps.mono _ _
      | exact LeO.none _
      | refine LeO.ite ?_ ?_
      | refine LeO.bind ?_ (fun _ => ?_)
theorem impl_Poset_polynomial.mono : ∀ a0 a1 k, LeO (impl_Poset_polynomial.f k a0 a1) (impl_Poset_polynomial.f (k + 1) a0 a1) := by
  intro a0 a1 k
  have ih0 := impl_Poset_polynomial.mono_l k
  unfold impl_Poset_polynomial.f
  repeat' first
      | (with_reducible exact ih0 _ _ _ _ _ _)
      | (with_reducible exact impl_Poset_steps.mono _ _)
      | (with_reducible exact LeO.refl _)
      | (with_reducible exact LeO.none _)
      | (with_reducible refine LeO.ite ?_ ?_)
      | (with_reducible refine LeO.bind ?_ (fun _ => ?_))
      | exact ih0 _ _ _ _ _ _
      | exact impl_Poset_steps.mono _ _
      | exact LeO.none _
      | refine LeO.ite ?_ ?_
      | refine LeO.bind ?_ (fun _ => ?_)
set_option maxHeartbeats 8000000 in
set_option maxRecDepth 100000 in
theorem impl_Poset_polynomial.calls (k : Nat) (A0_0 : Option Addr) (c0_0 : Nat) (l0_0 : List Int) (a1 : Int) (r : Int) (w : World) (hr0_0 : Kd.C (Kd.int .i64) w A0_0 l0_0.length l0_0) (hc0_0 : l0_0.length ≤ c0_0) (h : impl_Poset_polynomial.f k l0_0 a1 = some r) :
    Calls Try.prog 49 #[.agg #[.slice A0_0 l0_0.length c0_0], .int .i64 a1] w fun e w' => e = .returned (.int .i64 r) ∧ Below w.heap.size w w' := by
  have hu30 := Try.underlying30
  have HR0_0 := Aside0.mk hr0_0
  have HC0_0 := Aside0.mk hc0_0
  clear hr0_0 hc0_0
  have HB := Aside0.mk (Below.refl w.heap.size w)
  have H : ((impl_Poset_steps.f k l0_0).bind fun t257 => (impl_Poset_polynomial.l0 k a1 0 1 t257 (t257.length : Int) 0)) = some r := h
  clear h
  replace H := Option.bind_eq_some_iff.mp H
  obtain ⟨t257, A30, H⟩ := H
  replace H : (impl_Poset_polynomial.l0 k a1 0 1 t257 (t257.length : Int) 0) = some r := H
  have A3 := Aside0.mk A30
  clear A30
  have H' := Aside0.mk H
  clear H
  go_enter Try.func49, Try.ntmps49
  go_wp2_with (first | ((with_reducible refine gate_dst (N := 2) rfl ?_); refine box_event ?hg (N := 2) ?hd (cs := #[.slice A0_0 l0_0.length c0_0]) (t := 30) ?hr ?_; (case hd => rfl); (case hg => rfl); (case hr => first | (go_simp; done) | (go_simp; rfl)); intro gb256 hg w4 hbox hb; have n0_ := Aside0.mk (below_step (by repeat (first | (with_reducible first | exact HB.out | apply below_alloc | apply pw_below_drewN | apply below_drew1) | exact HB.out)) hb); have n1_ := Aside0.mk (hbox); have n2_ := Aside0.mk ((by rw [hg]; exact (below_size (by repeat (first | (with_reducible first | exact HB.out | apply below_alloc | apply pw_below_drewN | apply below_drew1) | exact HB.out))) : w.heap.size ≤ gb256)); have n3_ := Aside0.mk ((by rw [hg]; exact (below_size (by repeat (first | (with_reducible first | exact HB.out | apply below_alloc | apply pw_below_drewN | apply below_drew1) | exact HB.out))) : w.heap.size ≤ gb256)); clear HB; have HB := n0_; have BK256 := n1_; have GW256 := n2_; have GE256 := n3_; clear n0_ n1_ n2_ n3_; clear hb hbox hg; have hcz5_0 : w4.cell? ⟨gb256, 0, none⟩ = some (.slice A0_0 l0_0.length c0_0) := (blk_cell BK256.out 0).trans rfl; have hfz5_0 := blk_frozen BK256.out 0) | ((with_reducible refine gate_callee (f := 54) rfl ?_); refine goesL_ (some 10) rfl rfl Try.func54 (by kernel_rfl) rfl #[.agg #[.slice A0_0 l0_0.length c0_0]] rfl (by (try simp only [List.map_toArray, List.map_cons, List.map_nil]); first | done | rfl | (simp only [List.length_drop, List.length_take]; rfl)) ?_; (with_reducible refine (impl_Poset_steps.calls k _ _ l0_0 t257 _ ?side1 ?side2 A3.out).mono ?_); (case side1 => repeat (first | exact (Kd.C_below HR0_0.out HB.out) | (with_reducible refine Kd.C_alloc ?_ _) | (with_reducible refine Kd.C_drewN ?_ _) | (with_reducible refine Kd.C_drew ?_))); (case side2 => exact HC0_0.out); rintro e w6 ⟨v258, rfl, ho0, hb⟩; refine ⟨_, rfl, ?_⟩; have n0_ := Aside0.mk (Kd.R_lower ho0 (below_size (by repeat (first | (with_reducible first | exact HB.out | apply below_alloc | apply pw_below_drewN | apply below_drew1 | refine below_set ?_ GE256.out) | exact HB.out)))); have n1_ := Aside0.mk (blk_below (g := gb256) (o := .cells #[.slice A0_0 l0_0.length c0_0] 30 (0, 0)) (by (with_reducible repeat (first | refine blk_drewN ?_ _ | refine blk_drew ?_ | refine blk_alloc ?_ _)); exact BK256.out) hb); have n2_ := Aside0.mk (below_step (by repeat (first | (with_reducible first | exact HB.out | apply below_alloc | apply pw_below_drewN | apply below_drew1 | refine below_set ?_ GE256.out) | exact HB.out)) hb); clear BK256; clear HB; have HO259 := n0_; have BK256 := n1_; have HB := n2_; clear n0_ n1_ n2_; (try clear hb); (try clear hb2); (try clear hk); (try clear hi); (try clear ho0); obtain ⟨Ao7, co7, eo7⟩ := Kd.R_slice HO259.out; subst eo7))
  go_loopg [5, 6, 12] k (fun kq v5 v6 v12 w' => ∃ (x5_1 : Int) (x6_1 : Int) (x12_1 : Int), v5 = .int .i64 x5_1 ∧ v6 = .int .i64 x6_1 ∧ v12 = .int .i64 x12_1 ∧ Aside0 (impl_Poset_polynomial.l0 kq a1 x5_1 x6_1 t257 (t257.length : Int) x12_1 = some r) ∧ Aside0 (kq ≤ k) ∧ Aside0 (Kd.R (Kd.int .i64) 3 w' w.heap.size (fun _ => True) (.slice Ao7 t257.length co7) t257) ∧ Aside0 (w'.heap[gb256]? = some (.cells #[(.slice A0_0 l0_0.length c0_0)] 30 (0, 0))) ∧ Aside0 (Below w.heap.size w w'))
  case atStart => exact ⟨(0), (1), (0), (by first | rfl | (simp; done) | (simp [*]; done)), (by first | rfl | (simp; done) | (simp [*]; done)), (by first | rfl | (simp; done) | (simp [*]; done)), H', ⟨Nat.le_refl _⟩, ⟨by (with_reducible repeat (first | apply Kd.R_alloc | apply Kd.R_drewN | apply Kd.R_drew)); exact HO259.out⟩, ⟨by (with_reducible repeat (first | refine blk_drewN ?_ _ | refine blk_drew ?_ | refine blk_alloc ?_ _)); exact BK256.out⟩, ⟨by repeat (first | (with_reducible first | exact HB.out | apply below_alloc | apply pw_below_drewN | apply below_drew1 | refine below_set ?_ GE256.out) | exact HB.out)⟩⟩
  case round =>
    clear H'
    try clear p2
    try clear c4
    try clear c5
    try clear hcz5_0
    try clear hfz5_0
    obtain ⟨x5_1, x6_1, x12_1, rfl, rfl, rfl, HA, HK1, HO_10, BK256, HB⟩ := hrel
    cases gk with
    | zero => exact absurd HA.out (by simp [impl_Poset_polynomial.l0])
    | succ k1 =>
      have H := HA.out
      clear HA
      simp only [impl_Poset_polynomial.l0] at H
      by_cases c8 : x12_1 < (t257.length : Int)
      · rw [if_pos c8] at H
        have c8b0 : decide (x12_1 < (t257.length : Int)) = true := decide_eq_true c8
        clear c8
        by_cases c9 : 0 ≤ x12_1
        · rw [if_pos c9] at H
          have c9b0 : decide (0 ≤ x12_1) = true := decide_eq_true c9
          clear c9
          by_cases c10 : x12_1 < (t257.length : Int)
          · rw [if_pos c10] at H
            have c10b0 : decide (x12_1 < (t257.length : Int)) = true := decide_eq_true c10
            clear c10
            by_cases c11 : (wrap64 (x12_1 + 1)) = 0
            · rw [if_pos c11] at H
              exact absurd H (by simp)
            · rw [if_neg c11] at H
              have c11b0 : ((wrap64 (x12_1 + 1)) == 0) = false := beq_eq_false_iff_ne.mpr c11
              have c11b1 : ((wrap64 (x12_1 + 1)) != 0) = true := bne_iff_ne.mpr c11
              have H' := Aside0.mk H
              clear H
              have p260 : 0 ≤ (x12_1 : Int) := of_decide_eq_true (by first | (with_reducible assumption) | assumption)
              have q260 : x12_1 < (t257.length : Int) := of_decide_eq_true (by first | (with_reducible assumption) | assumption)
              obtain ⟨ad260, e260, hx260_0⟩ := Kd.at_int (Kd.R_reads' HO_10.out).2.2 x12_1 p260 q260
              cases e260
              replace p260 := eq_true p260
              replace q260 := eq_true q260
              go_wp2
              go_roundg k1
              case measure => have := HK1.out; omega
              case rel => exact ⟨(wrap64 (x5_1 + (wrap64 ((rd t257 x12_1) * (wrap64 (Int.tdiv (wrap64 (x6_1 * (wrap64 (a1 - x12_1)))) (wrap64 (x12_1 + 1)))))))), (wrap64 (Int.tdiv (wrap64 (x6_1 * (wrap64 (a1 - x12_1)))) (wrap64 (x12_1 + 1)))), (wrap64 (x12_1 + 1)), (by first | rfl | (simp; done) | (simp [*]; done)), (by first | rfl | (simp; done) | (simp [*]; done)), (by first | rfl | (simp; done) | (simp [*]; done)), H', ⟨by have := HK1.out; omega⟩, ⟨by (with_reducible repeat (first | apply Kd.R_alloc | apply Kd.R_drewN | apply Kd.R_drew)); exact HO_10.out⟩, ⟨by (with_reducible repeat (first | refine blk_drewN ?_ _ | refine blk_drew ?_ | refine blk_alloc ?_ _)); exact BK256.out⟩, ⟨by repeat (first | (with_reducible first | exact HB.out | apply below_alloc | apply pw_below_drewN | apply below_drew1 | refine below_set ?_ GE256.out) | exact HB.out)⟩⟩
          · rw [if_neg c10] at H
            exact absurd H (by simp)
        · rw [if_neg c9] at H
          exact absurd H (by simp)
      · rw [if_neg c8] at H
        have c8b0 : decide (x12_1 < (t257.length : Int)) = false := decide_eq_false c8
        clear c8
        obtain rfl := Option.some.inj H
        go_wp2
        go_ret
        exact ⟨by first | rfl | (simp [errW_none, errW_some] <;> rfl) | (simp [*, errW_none, errW_some] <;> rfl), by repeat (first | (with_reducible first | exact HB.out | apply below_alloc | apply pw_below_drewN | apply below_drew1 | refine below_set ?_ GE256.out) | exact HB.out)⟩

end Go.Proofs.Ytemkddgfneohhaa.F
end

section
namespace Go.Proofs.Ytemkddgfneohhaa.F
open Go.RowKit Go.Proofs.YtemkddgfneohhaaW.PrintWords Go.Proofs.YtemkddgfneohhaaW.PrintLast Go.Proofs.YtemkddgfneohhaaW.PrintMore
attribute [local go_sem] max2_int min2_int max_two min_two max_three min_three max_four min_four
set_option linter.unusedVariables false
set_option linter.unusedSimpArgs false

/-! ### impl_LabelPolynomialAt: function 27 -/
def impl_LabelPolynomialAt.f (k : Nat) (l0_0 : List Int) (a1 : Int) : Option (Int × Bool) := (impl_IsPoset.f k l0_0).bind fun t274 => (if t274 = true then ((impl_within.f a1 (-13) 13).bind fun t275 => (if t275 = true then ((impl_Poset_polynomial.f k l0_0 a1).bind fun t276 => (some (t276, true))) else (some (0, false)))) else (some (0, false)))
theorem impl_LabelPolynomialAt.mono : ∀ a0 a1 k, LeO (impl_LabelPolynomialAt.f k a0 a1) (impl_LabelPolynomialAt.f (k + 1) a0 a1) := by
  intro a0 a1 k
  unfold impl_LabelPolynomialAt.f
  repeat' first
      | (with_reducible exact impl_IsPoset.mono _ _)
      | (with_reducible exact impl_Poset_polynomial.mono _ _ _)
      | (with_reducible exact LeO.refl _)
      | (with_reducible exact LeO.none _)
      | (with_reducible refine LeO.ite ?_ ?_)
      | (with_reducible refine LeO.bind ?_ (fun _ => ?_))
      | exact impl_IsPoset.mono _ _
      | exact impl_Poset_polynomial.mono _ _ _
      | exact LeO.none _
      | refine LeO.ite ?_ ?_
      | refine LeO.bind ?_ (fun _ => ?_)
set_option maxHeartbeats 8000000 in
set_option maxRecDepth 100000 in
theorem impl_LabelPolynomialAt.calls (k : Nat) (A0_0 : Option Addr) (c0_0 : Nat) (l0_0 : List Int) (a1 : Int) (r1 : Int) (r2 : Bool) (w : World) (hr0_0 : Kd.C (Kd.int .i64) w A0_0 l0_0.length l0_0) (hc0_0 : l0_0.length ≤ c0_0) (h : impl_LabelPolynomialAt.f k l0_0 a1 = some (r1, r2)) :
    Calls Try.prog 27 #[.agg #[.slice A0_0 l0_0.length c0_0], .int .i64 a1] w fun e w' => e = .returned (.tuple #[.int .i64 r1, .bool r2]) ∧ Below w.heap.size w w' := by
  have hu30 := Try.underlying30
  have HR0_0 := Aside0.mk hr0_0
  have HC0_0 := Aside0.mk hc0_0
  clear hr0_0 hc0_0
  have HB := Aside0.mk (Below.refl w.heap.size w)
  have H : ((impl_IsPoset.f k l0_0).bind fun t274 => (if t274 = true then ((impl_within.f a1 (-13) 13).bind fun t275 => (if t275 = true then ((impl_Poset_polynomial.f k l0_0 a1).bind fun t276 => (some (t276, true))) else (some (0, false)))) else (some (0, false)))) = some (r1, r2) := h
  clear h
  replace H := Option.bind_eq_some_iff.mp H
  obtain ⟨t274, A30, H⟩ := H
  replace H : (if t274 = true then ((impl_within.f a1 (-13) 13).bind fun t275 => (if t275 = true then ((impl_Poset_polynomial.f k l0_0 a1).bind fun t276 => (some (t276, true))) else (some (0, false)))) else (some (0, false))) = some (r1, r2) := H
  have A3 := Aside0.mk A30
  clear A30
  by_cases c4 : t274 = true
  · subst c4
    have H1 : ((impl_within.f a1 (-13) 13).bind fun t275 => (if t275 = true then ((impl_Poset_polynomial.f k l0_0 a1).bind fun t276 => (some (t276, true))) else (some (0, false)))) = some (r1, r2) := by rw [if_pos rfl] at H; exact H
    clear H
    have H := H1
    clear H1
    replace H := Option.bind_eq_some_iff.mp H
    obtain ⟨t275, A50, H⟩ := H
    replace H : (if t275 = true then ((impl_Poset_polynomial.f k l0_0 a1).bind fun t276 => (some (t276, true))) else (some (0, false))) = some (r1, r2) := H
    have A5 := Aside0.mk A50
    clear A50
    by_cases c6 : t275 = true
    · subst c6
      have H1 : ((impl_Poset_polynomial.f k l0_0 a1).bind fun t276 => (some (t276, true))) = some (r1, r2) := by rw [if_pos rfl] at H; exact H
      clear H
      have H := H1
      clear H1
      replace H := Option.bind_eq_some_iff.mp H
      obtain ⟨t276, A70, H⟩ := H
      replace H : (some (t276, true)) = some (r1, r2) := H
      have A7 := Aside0.mk A70
      clear A70
      simp only [Option.some.injEq, Prod.mk.injEq] at H
      obtain ⟨rfl, rfl⟩ := H
      go_enter Try.func27, Try.ntmps27
      go_wp2_with (first | ((with_reducible refine gate_dst (N := 2) rfl ?_); refine box_event ?hg (N := 2) ?hd (cs := #[.slice A0_0 l0_0.length c0_0]) (t := 30) ?hr ?_; (case hd => rfl); (case hg => rfl); (case hr => first | (go_simp; done) | (go_simp; rfl)); intro gb273 hg w8 hbox hb; have n0_ := Aside0.mk (below_step (by repeat (first | (with_reducible first | exact HB.out | apply below_alloc | apply pw_below_drewN | apply below_drew1) | exact HB.out)) hb); have n1_ := Aside0.mk (hbox); have n2_ := Aside0.mk ((by rw [hg]; exact (below_size (by repeat (first | (with_reducible first | exact HB.out | apply below_alloc | apply pw_below_drewN | apply below_drew1) | exact HB.out))) : w.heap.size ≤ gb273)); have n3_ := Aside0.mk ((by rw [hg]; exact (below_size (by repeat (first | (with_reducible first | exact HB.out | apply below_alloc | apply pw_below_drewN | apply below_drew1) | exact HB.out))) : w.heap.size ≤ gb273)); clear HB; have HB := n0_; have BK273 := n1_; have GW273 := n2_; have GE273 := n3_; clear n0_ n1_ n2_ n3_; clear hb hbox hg; have hcz9_0 : w8.cell? ⟨gb273, 0, none⟩ = some (.slice A0_0 l0_0.length c0_0) := (blk_cell BK273.out 0).trans rfl; have hfz9_0 := blk_frozen BK273.out 0) | ((with_reducible refine gate_callee (f := 47) rfl ?_); refine goesL_ (some 7) rfl rfl Try.func47 (by kernel_rfl) rfl #[.agg #[.slice A0_0 l0_0.length c0_0]] rfl (by (try simp only [List.map_toArray, List.map_cons, List.map_nil]); first | done | rfl | (simp only [List.length_drop, List.length_take]; rfl)) ?_; (with_reducible refine (impl_IsPoset.calls k _ _ l0_0 true _ ?side1 ?side2 A3.out).mono ?_); (case side1 => repeat (first | exact (Kd.C_below HR0_0.out HB.out) | (with_reducible refine Kd.C_alloc ?_ _) | (with_reducible refine Kd.C_drewN ?_ _) | (with_reducible refine Kd.C_drew ?_))); (case side2 => exact HC0_0.out); rintro e w10 ⟨rfl, hb⟩; refine ⟨_, rfl, ?_⟩; have n0_ := Aside0.mk (blk_below (g := gb273) (o := .cells #[.slice A0_0 l0_0.length c0_0] 30 (0, 0)) (by (with_reducible repeat (first | refine blk_drewN ?_ _ | refine blk_drew ?_ | refine blk_alloc ?_ _)); exact BK273.out) hb); have n1_ := Aside0.mk (below_step (by repeat (first | (with_reducible first | exact HB.out | apply below_alloc | apply pw_below_drewN | apply below_drew1 | refine below_set ?_ GE273.out) | exact HB.out)) hb); clear BK273; clear HB; have BK273 := n0_; have HB := n1_; clear n0_ n1_; (try clear hb); (try clear hb2); (try clear hk); (try clear hi)) | (go_at_call 53; (with_reducible refine (impl_within.calls a1 (-13) 13 true _ A5.out).mono ?_); rintro e w' ⟨rfl, ⟨nd, rfl⟩⟩; have hcz11_0 : w10.cell? ⟨gb273, 0, none⟩ = some (.slice A0_0 l0_0.length c0_0) := (blk_cell BK273.out 0).trans rfl; have hfz11_0 := blk_frozen BK273.out 0) | ((with_reducible refine gate_callee (f := 49) rfl ?_); refine goesL_ (some 16) rfl rfl Try.func49 (by kernel_rfl) rfl #[.agg #[.slice A0_0 l0_0.length c0_0], .int .i64 a1] rfl (by (try simp only [List.map_toArray, List.map_cons, List.map_nil]); first | done | rfl | (simp only [List.length_drop, List.length_take]; rfl)) ?_; (with_reducible refine (impl_Poset_polynomial.calls k _ _ l0_0 a1 t276 _ ?side1 ?side2 A7.out).mono ?_); (case side1 => repeat (first | exact (Kd.C_below HR0_0.out (by repeat (first | (with_reducible first | exact HB.out | apply below_alloc | apply pw_below_drewN | apply below_drew1 | refine below_set ?_ GE273.out) | exact HB.out))) | (with_reducible refine Kd.C_alloc ?_ _) | (with_reducible refine Kd.C_drewN ?_ _) | (with_reducible refine Kd.C_drew ?_))); (case side2 => exact HC0_0.out); rintro e w12 ⟨rfl, hb⟩; refine ⟨_, rfl, ?_⟩; have n0_ := Aside0.mk (blk_below (g := gb273) (o := .cells #[.slice A0_0 l0_0.length c0_0] 30 (0, 0)) (by (with_reducible repeat (first | refine blk_drewN ?_ _ | refine blk_drew ?_ | refine blk_alloc ?_ _)); exact BK273.out) hb); have n1_ := Aside0.mk (below_step (by repeat (first | (with_reducible first | exact HB.out | apply below_alloc | apply pw_below_drewN | apply below_drew1 | refine below_set ?_ GE273.out) | exact HB.out)) hb); clear BK273; clear HB; have BK273 := n0_; have HB := n1_; clear n0_ n1_; (try clear hb); (try clear hb2); (try clear hk); (try clear hi)))
      go_ret2
      exact ⟨by first | rfl | (simp [errW_none, errW_some] <;> rfl) | (simp [*, errW_none, errW_some] <;> rfl), by repeat (first | (with_reducible first | exact HB.out | apply below_alloc | apply pw_below_drewN | apply below_drew1 | refine below_set ?_ GE273.out) | exact HB.out)⟩
    · replace c6 := Bool.eq_false_iff.mpr c6
      subst c6
      have H1 : (some (0, false)) = some (r1, r2) := by rw [if_neg (show ¬ (false = true) by decide)] at H; exact H
      clear H
      have H := H1
      clear H1
      simp only [Option.some.injEq, Prod.mk.injEq] at H
      obtain ⟨rfl, rfl⟩ := H
      go_enter Try.func27, Try.ntmps27
      go_wp2_with (first | ((with_reducible refine gate_dst (N := 2) rfl ?_); refine box_event ?hg (N := 2) ?hd (cs := #[.slice A0_0 l0_0.length c0_0]) (t := 30) ?hr ?_; (case hd => rfl); (case hg => rfl); (case hr => first | (go_simp; done) | (go_simp; rfl)); intro gb273 hg w13 hbox hb; have n0_ := Aside0.mk (below_step (by repeat (first | (with_reducible first | exact HB.out | apply below_alloc | apply pw_below_drewN | apply below_drew1) | exact HB.out)) hb); have n1_ := Aside0.mk (hbox); have n2_ := Aside0.mk ((by rw [hg]; exact (below_size (by repeat (first | (with_reducible first | exact HB.out | apply below_alloc | apply pw_below_drewN | apply below_drew1) | exact HB.out))) : w.heap.size ≤ gb273)); have n3_ := Aside0.mk ((by rw [hg]; exact (below_size (by repeat (first | (with_reducible first | exact HB.out | apply below_alloc | apply pw_below_drewN | apply below_drew1) | exact HB.out))) : w.heap.size ≤ gb273)); clear HB; have HB := n0_; have BK273 := n1_; have GW273 := n2_; have GE273 := n3_; clear n0_ n1_ n2_ n3_; clear hb hbox hg; have hcz14_0 : w13.cell? ⟨gb273, 0, none⟩ = some (.slice A0_0 l0_0.length c0_0) := (blk_cell BK273.out 0).trans rfl; have hfz14_0 := blk_frozen BK273.out 0) | ((with_reducible refine gate_callee (f := 47) rfl ?_); refine goesL_ (some 7) rfl rfl Try.func47 (by kernel_rfl) rfl #[.agg #[.slice A0_0 l0_0.length c0_0]] rfl (by (try simp only [List.map_toArray, List.map_cons, List.map_nil]); first | done | rfl | (simp only [List.length_drop, List.length_take]; rfl)) ?_; (with_reducible refine (impl_IsPoset.calls k _ _ l0_0 true _ ?side1 ?side2 A3.out).mono ?_); (case side1 => repeat (first | exact (Kd.C_below HR0_0.out HB.out) | (with_reducible refine Kd.C_alloc ?_ _) | (with_reducible refine Kd.C_drewN ?_ _) | (with_reducible refine Kd.C_drew ?_))); (case side2 => exact HC0_0.out); rintro e w15 ⟨rfl, hb⟩; refine ⟨_, rfl, ?_⟩; have n0_ := Aside0.mk (blk_below (g := gb273) (o := .cells #[.slice A0_0 l0_0.length c0_0] 30 (0, 0)) (by (with_reducible repeat (first | refine blk_drewN ?_ _ | refine blk_drew ?_ | refine blk_alloc ?_ _)); exact BK273.out) hb); have n1_ := Aside0.mk (below_step (by repeat (first | (with_reducible first | exact HB.out | apply below_alloc | apply pw_below_drewN | apply below_drew1 | refine below_set ?_ GE273.out) | exact HB.out)) hb); clear BK273; clear HB; have BK273 := n0_; have HB := n1_; clear n0_ n1_; (try clear hb); (try clear hb2); (try clear hk); (try clear hi)) | (go_at_call 53; (with_reducible refine (impl_within.calls a1 (-13) 13 false _ A5.out).mono ?_); rintro e w' ⟨rfl, ⟨nd, rfl⟩⟩))
      go_ret2
      exact ⟨by first | rfl | (simp [errW_none, errW_some] <;> rfl) | (simp [*, errW_none, errW_some] <;> rfl), by repeat (first | (with_reducible first | exact HB.out | apply below_alloc | apply pw_below_drewN | apply below_drew1 | refine below_set ?_ GE273.out) | exact HB.out)⟩
  · replace c4 := Bool.eq_false_iff.mpr c4
    subst c4
    have H1 : (some (0, false)) = some (r1, r2) := by rw [if_neg (show ¬ (false = true) by decide)] at H; exact H
    clear H
    have H := H1
    clear H1
    simp only [Option.some.injEq, Prod.mk.injEq] at H
    obtain ⟨rfl, rfl⟩ := H
    go_enter Try.func27, Try.ntmps27
    go_wp2_with (first | ((with_reducible refine gate_dst (N := 2) rfl ?_); refine box_event ?hg (N := 2) ?hd (cs := #[.slice A0_0 l0_0.length c0_0]) (t := 30) ?hr ?_; (case hd => rfl); (case hg => rfl); (case hr => first | (go_simp; done) | (go_simp; rfl)); intro gb273 hg w16 hbox hb; have n0_ := Aside0.mk (below_step (by repeat (first | (with_reducible first | exact HB.out | apply below_alloc | apply pw_below_drewN | apply below_drew1) | exact HB.out)) hb); have n1_ := Aside0.mk (hbox); have n2_ := Aside0.mk ((by rw [hg]; exact (below_size (by repeat (first | (with_reducible first | exact HB.out | apply below_alloc | apply pw_below_drewN | apply below_drew1) | exact HB.out))) : w.heap.size ≤ gb273)); have n3_ := Aside0.mk ((by rw [hg]; exact (below_size (by repeat (first | (with_reducible first | exact HB.out | apply below_alloc | apply pw_below_drewN | apply below_drew1) | exact HB.out))) : w.heap.size ≤ gb273)); clear HB; have HB := n0_; have BK273 := n1_; have GW273 := n2_; have GE273 := n3_; clear n0_ n1_ n2_ n3_; clear hb hbox hg; have hcz17_0 : w16.cell? ⟨gb273, 0, none⟩ = some (.slice A0_0 l0_0.length c0_0) := (blk_cell BK273.out 0).trans rfl; have hfz17_0 := blk_frozen BK273.out 0) | ((with_reducible refine gate_callee (f := 47) rfl ?_); refine goesL_ (some 7) rfl rfl Try.func47 (by kernel_rfl) rfl #[.agg #[.slice A0_0 l0_0.length c0_0]] rfl (by (try simp only [List.map_toArray, List.map_cons, List.map_nil]); first | done | rfl | (simp only [List.length_drop, List.length_take]; rfl)) ?_; (with_reducible refine (impl_IsPoset.calls k _ _ l0_0 false _ ?side1 ?side2 A3.out).mono ?_); (case side1 => repeat (first | exact (Kd.C_below HR0_0.out HB.out) | (with_reducible refine Kd.C_alloc ?_ _) | (with_reducible refine Kd.C_drewN ?_ _) | (with_reducible refine Kd.C_drew ?_))); (case side2 => exact HC0_0.out); rintro e w18 ⟨rfl, hb⟩; refine ⟨_, rfl, ?_⟩; have n0_ := Aside0.mk (blk_below (g := gb273) (o := .cells #[.slice A0_0 l0_0.length c0_0] 30 (0, 0)) (by (with_reducible repeat (first | refine blk_drewN ?_ _ | refine blk_drew ?_ | refine blk_alloc ?_ _)); exact BK273.out) hb); have n1_ := Aside0.mk (below_step (by repeat (first | (with_reducible first | exact HB.out | apply below_alloc | apply pw_below_drewN | apply below_drew1 | refine below_set ?_ GE273.out) | exact HB.out)) hb); clear BK273; clear HB; have BK273 := n0_; have HB := n1_; clear n0_ n1_; (try clear hb); (try clear hb2); (try clear hk); (try clear hi)))
    go_ret2
    exact ⟨by first | rfl | (simp [errW_none, errW_some] <;> rfl) | (simp [*, errW_none, errW_some] <;> rfl), by repeat (first | (with_reducible first | exact HB.out | apply below_alloc | apply pw_below_drewN | apply below_drew1 | refine below_set ?_ GE273.out) | exact HB.out)⟩

end Go.Proofs.Ytemkddgfneohhaa.F
end

section
namespace Go.Proofs.Ytemkddgfneohhaa.Q
open Go.RowKit Go.Proofs.YtemkddgfneohhaaW.PrintWords Go.Proofs.Ytemkddgfneohhaa.F
set_option linter.unusedVariables false
def topN (p : List Int) (s : Nat) : Nat := (itemsN s).foldl (fun a e => ndiff a (L p e)) s
theorem foldl_ndiff_lt (g : Nat → Nat) (l : List Nat) (a n : Nat) (ha : a < n) : l.foldl (fun a e => ndiff a (g e)) a < n := by
  induction l generalizing a with
  | nil => exact ha
  | cons x l ih => exact ih _ (ndiff_lt ha)
theorem foldl_ndiff_bit (g : Nat → Nat) (l : List Nat) (a i : Nat) : (l.foldl (fun a e => ndiff a (g e)) a).testBit i = (a.testBit i && !l.any fun e => (g e).testBit i) := by
  induction l generalizing a with
  | nil => simp
  | cons x l ih =>
    rw [List.foldl_cons, ih, ndiff_bit, List.any_cons]
    cases a.testBit i <;> cases (g x).testBit i <;> simp
theorem top_ev {p : List Int} (hp : PO p) {s : Nat} (hs : s < 2 ^ p.length) : Ev (fun k => impl_Poset_top.f k p (s : Int)) ((topN p s : Nat) : Int) := by
  have hn := hp.small
  unfold impl_Poset_top.f
  refine Ev.bind (items_ev s (lt_pow hs (by omega))) ?_
  have hil := itemsN_len s
  have key : ∀ i, i ≤ (itemsN s).length → ∀ a : Nat, a < 2 ^ p.length → Ev (fun k => impl_Poset_top.l0 k (a : Int) (ints (itemsN s)) ((ints (itemsN s)).length : Int) (i : Int) p) ((((itemsN s).drop i).foldl (fun a e => ndiff a (L p e)) a : Nat) : Int) := by
    refine downTo _ ?_ ?_
    · intro a ha
      rw [List.drop_length]
      exact Ev.step (by intro k; simp only [impl_Poset_top.l0]; rfl) (Ev.no (by rw [ints_len]; omega) (Ev.now _))
    · intro i hi ih a ha
      have he : (itemsN s).getD i 0 < p.length := items_lt hs hi
      have hrd : rd (ints (itemsN s)) (i : Int) = (((itemsN s).getD i 0 : Nat) : Int) := rd_ints _ _
      refine Ev.step (by intro k; simp only [impl_Poset_top.l0]; rfl) (Ev.yes (by rw [ints_len]; omega) (Ev.yes (by omega) (Ev.yes (by rw [ints_len]; omega) ?_)))
      rw [hrd]
      refine Ev.yes (by omega) (Ev.yes (by omega) ?_)
      rw [rdN, hp.val _ he, bits_andNotN (lt_pow ha (by omega)) (lt_pow (L_lt hp he) (by omega)), wid1 hi (by omega), foldl_drop_step _ _ 0 a hi]
      exact ih _ (ndiff_lt ha)
  exact key 0 (Nat.zero_le _) s hs
theorem topN_eq {p : List Int} (hp : PO p) {u : Nat} (hu : u < 2 ^ p.length) : (topN p u == u) = frB p u := by
  have hn := hp.small
  rw [Bool.eq_iff_iff, beq_iff_eq]
  unfold frB
  rw [allFrom_iff]
  constructor
  · intro h i _ hi
    cases hb : u.testBit i with
    | false => rfl
    | true =>
      rw [Bool.not_true, Bool.false_or, decide_eq_true_eq]
      apply Nat.eq_of_testBit_eq
      intro j
      rw [Nat.testBit_and, Nat.zero_testBit]
      cases hj : u.testBit j with
      | false => simp
      | true =>
        have h1 : (topN p u).testBit j = true := by rw [h]; exact hj
        unfold topN at h1
        rw [foldl_ndiff_bit, hj, Bool.true_and] at h1
        have h2 : ¬ (L p i).testBit j = true := fun hl => by
          rw [List.any_eq_true.2 ⟨i, mem_itemsN.2 ⟨by omega, hb⟩, hl⟩] at h1; cases h1
        simp [h2]
  · intro h
    apply Nat.eq_of_testBit_eq
    intro j
    unfold topN
    rw [foldl_ndiff_bit]
    cases hj : u.testBit j with
    | false => rfl
    | true =>
      rw [Bool.true_and, Bool.not_eq_true', List.any_eq_false]
      intro e he hl
      have hb := (mem_itemsN.1 he).2
      have h1 := h e (Nat.zero_le _) (lt_of_bit hu hb)
      rw [hb, Bool.not_true, Bool.false_or, decide_eq_true_eq] at h1
      have h2 : (L p e &&& u).testBit j = true := by rw [Nat.testBit_and, hl, hj]; rfl
      rw [h1, Nat.zero_testBit] at h2
      cases h2
theorem steps_ev {p : List Int} (hp : PO p) : Ev (fun k => impl_Poset_steps.f k p) (ints (stepsN p)) := by
  have hn := hp.small
  have hall : allN p ∈ idealsN p := mem_idealsN.2 ⟨allN_lt p, idealB_all p hp⟩
  obtain ⟨K1, hK1⟩ := ideals_ev hp
  obtain ⟨K2, hK2⟩ := Ev.all (g := fun s k => impl_Poset_top.f k p (s : Int)) (r := fun s => ((topN p s : Nat) : Int)) (2 ^ p.length) (fun s hs => top_ev hp hs)
  refine ⟨K1 + K2, fun k hk => ?_⟩
  show impl_Poset_steps.f k p = _
  unfold impl_Poset_steps.f
  have htop : ∀ s ∈ idealsN p, ∀ t ∈ idealsN p, impl_Poset_top.f k p (Go.bits .andNot .i64 (t : Int) (s : Int)) = some ((topN p (ndiff t s) : Nat) : Int) := fun s hs t ht => by
    rw [bits_andNotN (lt_pow (mem_idealsN.1 ht).1 (by omega)) (lt_pow (mem_idealsN.1 hs).1 (by omega))]
    exact hK2 k (by omega) _ (ndiff_lt (mem_idealsN.1 ht).1)
  have hok : stpOk k p (ints (idealsN p)) = true := List.all_eq_true.2 fun x hx => List.all_eq_true.2 fun y hy => by
    obtain ⟨t, ht, rfl⟩ := List.mem_map.1 hx
    obtain ⟨s, hs, rfl⟩ := List.mem_map.1 hy
    show (impl_Poset_top.f k p (Go.bits .andNot .i64 (t : Int) (s : Int))).isSome = true
    rw [htop s hs t ht]; rfl
  have h1 : impl_Poset_ideals.f k p = some (ints (idealsN p)) := hK1 k (by omega)
  rw [h1, Option.bind_some, all_eq (by omega), Option.bind_some, if_pos ⟨cntOk_ids hn, ⟨List.mem_map.2 ⟨allN p, hall, rfl⟩, by omega⟩, hok⟩]
  congr 1
  unfold stpOuts stepsN ints
  rw [List.map_map]
  refine List.map_congr_left fun j hj => ?_
  have hj := List.mem_range.1 hj
  refine cntAt_eq hn (B := opB p) (fun s hs t ht => ?_) (fun s t h => opB_sub h) (j + 1) (by omega) (allN p) hall
  unfold stpB opB
  rw [htop s hs t ht, Option.getD_some, bits_andNotN (lt_pow (mem_idealsN.1 hs).1 (by omega)) (lt_pow (mem_idealsN.1 ht).1 (by omega)), bits_andNotN (lt_pow (mem_idealsN.1 ht).1 (by omega)) (lt_pow (mem_idealsN.1 hs).1 (by omega)), ← topN_eq hp (ndiff_lt (mem_idealsN.1 ht).1)]
  have e1 : (((ndiff s t : Nat) : Int) == 0) = subB s t := by unfold subB; rw [Bool.eq_iff_iff, beq_iff_eq, beq_iff_eq]; omega
  have e2 : (((ndiff t s : Nat) : Int) != 0) = !(ndiff t s == 0) := by unfold bne; congr 1; rw [Bool.eq_iff_iff, beq_iff_eq, beq_iff_eq]; omega
  have e3 : (((topN p (ndiff t s) : Nat) : Int) == ((ndiff t s : Nat) : Int)) = (topN p (ndiff t s) == ndiff t s) := by rw [Bool.eq_iff_iff, beq_iff_eq, beq_iff_eq]; omega
  rw [e1, e2, e3]
end Go.Proofs.Ytemkddgfneohhaa.Q
end

section
namespace Go.Proofs.Ytemkddgfneohhaa.Q
open Go.RowKit Go.Proofs.YtemkddgfneohhaaW.PrintWords Go.Proofs.Ytemkddgfneohhaa.F
set_option linter.unusedVariables false
theorem polynomial_ev {p : List Int} (hp : PO p) (x : Int) : Ev (fun k => impl_Poset_polynomial.f k p x) (polyL x (ints (stepsN p)) 0 0) := by
  have hn := hp.small
  unfold impl_Poset_polynomial.f
  refine Ev.bind (steps_ev hp) ?_
  have hl : (ints (stepsN p)).length = p.length := by rw [ints_len, stepsN_len]
  generalize ints (stepsN p) = S at hl ⊢
  have key : ∀ i, i ≤ S.length → ∀ acc : Int, Ev (fun k => impl_Poset_polynomial.l0 k x acc (ch x i) S (S.length : Int) (i : Int)) (polyL x (S.drop i) i acc) := by
    refine downTo _ ?_ ?_
    · intro acc
      rw [List.drop_length]
      exact Ev.step (by intro k; simp only [impl_Poset_polynomial.l0]; rfl) (Ev.no (by omega) (Ev.now _))
    · intro i hi ih acc
      refine Ev.step (by intro k; simp only [impl_Poset_polynomial.l0]; rfl) (Ev.yes (by omega) (Ev.yes (by omega) (Ev.yes (by omega) ?_)))
      rw [wid1 hi (by omega), List.drop_eq_getElem_cons hi]
      refine Ev.no (by omega) ?_
      rw [rdN' hi]
      exact ih _
  exact key 0 (Nat.zero_le _) 0
end Go.Proofs.Ytemkddgfneohhaa.Q
end

section
namespace Go.Proofs.Ytemkddgfneohhaa.F
open Go.RowKit Go.Proofs.YtemkddgfneohhaaW.PrintWords Go.Proofs.YtemkddgfneohhaaW.PrintLast Go.Proofs.YtemkddgfneohhaaW.PrintMore
set_option linter.unusedVariables false
set_option linter.unusedSimpArgs false
theorem laws_FnExactLabelPolynomialAt.belowD {w w' : World} (h : Drawn0 w w') : Below w.heap.size w w' := by
  obtain ⟨m, rfl⟩ := h
  exact pw_below_drewN (Below.refl _ _) m
set_option maxHeartbeats 8000000 in
set_option maxRecDepth 100000 in
theorem laws_FnExactLabelPolynomialAt.calls0 (k k1 : Nat) (A0 : Option Addr) (c0 : Nat) (l0 : List Int) (a1 : Int) (z1 : Int) (w : World) (hr0 : Kd.C (Kd.int .i64) w A0 l0.length l0) (hc0 : l0.length ≤ c0) (hy0_ : laws_szPoset.f l0 1048576 = some z1) (hx : decide (z1 < 0) = true) :
    Calls Try.prog 7 #[.agg #[.slice A0 l0.length c0], .int .i64 a1] w fun e w' => e = .returned (.bool true) ∧ Below w.heap.size w w' := by
  have HR0 := Aside0.mk hr0
  have HC0 := Aside0.mk hc0
  clear hr0 hc0
  have hy0 := Aside0.mk hy0_
  clear hy0_
  have HT0 := Aside0.mk (Below.refl w.heap.size w)
  go_enter Try.func7, Try.ntmps7
  go_wp2_with (first | ((with_reducible refine gate_dst (N := 2) rfl ?_); refine box_event ?hg (N := 2) ?hd (cs := #[.slice A0 l0.length c0]) (t := 27) ?hr ?_; (case hd => rfl); (case hg => rfl); (case hr => first | (go_simp; done) | (go_simp; rfl)); intro g2 hg_ w1 hbox_ hb_; have HB1 := Aside0.mk hb_; have HZ1 : Aside0 (w.heap.size ≤ w1.heap.size) := ⟨hb_.size⟩; have HT1 := Aside0.mk (HT0.out.trans (Below.mono hb_ HT0.out.size)); have HG2 : Aside0 (w.heap.size ≤ g2 ∧ g2 < w1.heap.size) := ⟨Nat.le_of_eq hg_.symm, blk_lt hbox_⟩; have HBK_ := Aside0.mk hbox_; clear hb_ hbox_ hg_; have HBK2 := HBK_; clear HBK_; have hcz2 : w1.cell? ⟨g2, 0, none⟩ = some (.slice A0 l0.length c0) := (blk_cell HBK2.out 0).trans rfl; have hfz2 := blk_frozen HBK2.out 0))
  have hcall_ := laws_szPoset.calls _ _ l0 1048576 z1 _ (Kd.C_below HR0.out HT1.out) HC0.out hy0.out
  refine hcall_.mono ?_
  clear hcall_ 
  rintro e w2 ⟨rfl, hb_⟩
  have HB2 := Aside0.mk hb_
  have HZ2 : Aside0 (w1.heap.size ≤ w2.heap.size) := ⟨hb_.size⟩
  have HT2 := Aside0.mk (HT1.out.trans (Below.mono hb_ HT1.out.size))
  clear hb_
  have n_ := Aside0.mk (blk_below HBK2.out HB2.out)
  clear HBK2 hcz2
  have HBK2 := n_
  clear n_
  have hcz2 : w2.cell? ⟨g2, 0, none⟩ = some (.slice A0 l0.length c0) := (blk_cell HBK2.out 0).trans rfl
  go_wp2
  go_ret
  exact ⟨by first | rfl | (simp; done) | (simp [*]; done), by repeat (first | (with_reducible first | exact HT2.out | apply below_alloc | apply pw_below_drewN | apply below_drew1) | exact HT2.out)⟩
set_option maxHeartbeats 8000000 in
set_option maxRecDepth 100000 in
theorem laws_FnExactLabelPolynomialAt.calls1 (k k1 : Nat) (A0 : Option Addr) (c0 : Nat) (l0 : List Int) (a1 : Int) (z1 : Int) (v2 : Int) (v3 : Bool) (w : World) (hr0 : Kd.C (Kd.int .i64) w A0 l0.length l0) (hc0 : l0.length ≤ c0) (hy0_ : laws_szPoset.f l0 1048576 = some z1) (hy1 : decide (z1 < 0) = false) (hy2_ : laws_toPoset.f k1 l0 = some l0) (hy3_ : spec_LabelPolynomialAt.f k l0 a1 = some (v2, v3)) (hy4_ : impl_LabelPolynomialAt.f k l0 a1 = some (v2, v3)) (hy5_ : laws_eqPoset.f k1 l0 l0 = some true) :
    Calls Try.prog 7 #[.agg #[.slice A0 l0.length c0], .int .i64 a1] w fun e w' => e = .returned (.bool true) ∧ Below w.heap.size w w' := by
  have HR0 := Aside0.mk hr0
  have HC0 := Aside0.mk hc0
  clear hr0 hc0
  have hy0 := Aside0.mk hy0_
  clear hy0_
  have hy2 := Aside0.mk hy2_
  clear hy2_
  have hy3 := Aside0.mk hy3_
  clear hy3_
  have hy4 := Aside0.mk hy4_
  clear hy4_
  have hy5 := Aside0.mk hy5_
  clear hy5_
  have HT0 := Aside0.mk (Below.refl w.heap.size w)
  go_enter Try.func7, Try.ntmps7
  go_wp2_with (first | ((with_reducible refine gate_dst (N := 2) rfl ?_); refine box_event ?hg (N := 2) ?hd (cs := #[.slice A0 l0.length c0]) (t := 27) ?hr ?_; (case hd => rfl); (case hg => rfl); (case hr => first | (go_simp; done) | (go_simp; rfl)); intro g2 hg_ w1 hbox_ hb_; have HB1 := Aside0.mk hb_; have HZ1 : Aside0 (w.heap.size ≤ w1.heap.size) := ⟨hb_.size⟩; have HT1 := Aside0.mk (HT0.out.trans (Below.mono hb_ HT0.out.size)); have HG2 : Aside0 (w.heap.size ≤ g2 ∧ g2 < w1.heap.size) := ⟨Nat.le_of_eq hg_.symm, blk_lt hbox_⟩; have HBK_ := Aside0.mk hbox_; clear hb_ hbox_ hg_; have HBK2 := HBK_; clear HBK_; have hcz2 : w1.cell? ⟨g2, 0, none⟩ = some (.slice A0 l0.length c0) := (blk_cell HBK2.out 0).trans rfl; have hfz2 := blk_frozen HBK2.out 0))
  have hcall_ := laws_szPoset.calls _ _ l0 1048576 z1 _ (Kd.C_below HR0.out HT1.out) HC0.out hy0.out
  refine hcall_.mono ?_
  clear hcall_ 
  rintro e w2 ⟨rfl, hb_⟩
  have HB2 := Aside0.mk hb_
  have HZ2 : Aside0 (w1.heap.size ≤ w2.heap.size) := ⟨hb_.size⟩
  have HT2 := Aside0.mk (HT1.out.trans (Below.mono hb_ HT1.out.size))
  clear hb_
  have n_ := Aside0.mk (blk_below HBK2.out HB2.out)
  clear HBK2 hcz2
  have HBK2 := n_
  clear n_
  have hcz2 : w2.cell? ⟨g2, 0, none⟩ = some (.slice A0 l0.length c0) := (blk_cell HBK2.out 0).trans rfl
  go_wp2_with fail
  have hcall_ := laws_toPoset.calls k1 _ _ l0 l0 _ (Kd.C_below HR0.out HT2.out) HC0.out hy2.out
  refine hcall_.mono ?_
  clear hcall_ 
  rintro e w3 ⟨v1x, rfl, hx1_, hb_⟩
  have HB3 := Aside0.mk hb_
  have HZ3 : Aside0 (w2.heap.size ≤ w3.heap.size) := ⟨hb_.size⟩
  have HT3 := Aside0.mk (HT2.out.trans (Below.mono hb_ HT2.out.size))
  clear hb_
  have n_ := Aside0.mk (blk_below HBK2.out HB3.out)
  clear HBK2 hcz2
  have HBK2 := n_
  clear n_
  have hcz2 : w3.cell? ⟨g2, 0, none⟩ = some (.slice A0 l0.length c0) := (blk_cell HBK2.out 0).trans rfl
  have HX1 := Aside0.mk (Kd.R_lower (Kd.R_mono (ok' := fun k_ => w2.heap.size ≤ k_ ∧ k_ < w3.heap.size) (Kd.R_bound hx1_) (fun k_ h_ => ⟨h_.2.1, h_.2.2.1⟩)) HT2.out.size)
  clear hx1_
  go_wp2_with fail
  obtain ⟨A1_, c1_, e1_, hl1_, hC1_⟩ := Kd.R_reads HX1.out
  have hcall_ := spec_LabelPolynomialAt.calls k _ _ l0 a1 v2 v3 _ hC1_ hl1_ hy3.out
  rw [← e1_] at hcall_
  refine hcall_.mono ?_
  clear hcall_ hC1_ hl1_ e1_ c1_ A1_
  rintro e w4 ⟨rfl, hb_⟩
  have HB4 := Aside0.mk hb_
  have HZ4 : Aside0 (w3.heap.size ≤ w4.heap.size) := ⟨hb_.size⟩
  have HT4 := Aside0.mk (HT3.out.trans (Below.mono hb_ HT3.out.size))
  clear hb_
  have n_ := Aside0.mk (Kd.R_below HX1.out HB4.out)
  clear HX1
  have HX1 := n_
  clear n_
  have n_ := Aside0.mk (blk_below HBK2.out HB4.out)
  clear HBK2 hcz2
  have HBK2 := n_
  clear n_
  have hcz2 : w4.cell? ⟨g2, 0, none⟩ = some (.slice A0 l0.length c0) := (blk_cell HBK2.out 0).trans rfl
  go_wp2_with fail
  have hcall_ := laws_toPoset.calls k1 _ _ l0 l0 _ (Kd.C_below HR0.out HT4.out) HC0.out hy2.out
  refine hcall_.mono ?_
  clear hcall_ 
  rintro e w5 ⟨v2x, rfl, hx2_, hb_⟩
  have HB5 := Aside0.mk hb_
  have HZ5 : Aside0 (w4.heap.size ≤ w5.heap.size) := ⟨hb_.size⟩
  have HT5 := Aside0.mk (HT4.out.trans (Below.mono hb_ HT4.out.size))
  clear hb_
  have n_ := Aside0.mk (Kd.R_below HX1.out HB5.out)
  clear HX1
  have HX1 := n_
  clear n_
  have n_ := Aside0.mk (blk_below HBK2.out HB5.out)
  clear HBK2 hcz2
  have HBK2 := n_
  clear n_
  have hcz2 : w5.cell? ⟨g2, 0, none⟩ = some (.slice A0 l0.length c0) := (blk_cell HBK2.out 0).trans rfl
  have HX2 := Aside0.mk (Kd.R_lower (Kd.R_mono (ok' := fun k_ => w4.heap.size ≤ k_ ∧ k_ < w5.heap.size) (Kd.R_bound hx2_) (fun k_ h_ => ⟨h_.2.1, h_.2.2.1⟩)) HT4.out.size)
  clear hx2_
  obtain ⟨Aq2, cq2, eq_⟩ := Kd.R_slice HX2.out
  subst eq_
  go_wp2_with (first | ((with_reducible refine gate_dst (N := 8) rfl ?_); refine box_event ?hg (N := 8) ?hd (cs := #[.slice none 0 0]) (t := 30) ?hr ?_; (case hd => rfl); (case hg => rfl); (case hr => first | (go_simp; done) | (go_simp; rfl)); intro g8 hg_ w6 hbox_ hb_; have HB6 := Aside0.mk hb_; have HZ6 : Aside0 (w5.heap.size ≤ w6.heap.size) := ⟨hb_.size⟩; have HT6 := Aside0.mk (HT5.out.trans (Below.mono hb_ HT5.out.size)); have HG8 : Aside0 (w5.heap.size ≤ g8 ∧ g8 < w6.heap.size) := ⟨Nat.le_of_eq hg_.symm, blk_lt hbox_⟩; have HBK_ := Aside0.mk hbox_; clear hb_ hbox_ hg_; have n_ := Aside0.mk (Kd.R_below HX1.out HB6.out); clear HX1; have HX1 := n_; clear n_; have n_ := Aside0.mk (Kd.R_below HX2.out HB6.out); clear HX2; have HX2 := n_; clear n_; have n_ := Aside0.mk (blk_below HBK2.out HB6.out); clear HBK2 hcz2; have HBK2 := n_; clear n_; have hcz2 : w6.cell? ⟨g2, 0, none⟩ = some (.slice A0 l0.length c0) := (blk_cell HBK2.out 0).trans rfl; have HBK8 := HBK_; clear HBK_; have hcz8 : w6.cell? ⟨g8, 0, none⟩ = some (.slice none 0 0) := (blk_cell HBK8.out 0).trans rfl; have hfz8 := blk_frozen HBK8.out 0) | ((with_reducible refine gate_store (t := 30) (p := 8) rfl ?_); refine store_event (t := 30) (p := 8) (v := ?vo_) (w1 := (w6.setCell ⟨g8, 0, none⟩ (.slice Aq2 l0.length cq2))) ?hg ?ho ?hn ?hr ?_; (case ho => rfl); (case hg => rfl); (case hn => rfl); (case hr => first | (go_simp; done) | (go_simp; rfl)); intro w7 hw_; have hlt_ : w.heap.size ≤ g8 := (by have z1 := HZ1.out; have z2 := HZ2.out; have z3 := HZ3.out; have z4 := HZ4.out; have z5 := HZ5.out; have z6 := HZ6.out; have hg_ := HG8.out; have h0_ := HT0.out.size; omega); have HT7 : Aside0 (Below w.heap.size w w7) := ⟨by rw [hw_]; exact below_set HT6.out hlt_⟩; have HZ7 : Aside0 (w6.heap.size ≤ w7.heap.size) := ⟨by rw [hw_]; simp [World.setCell]⟩; have n_ : Aside0 (Kd.R (Kd.int .i64) 3 w7 w.heap.size (fun k_ => w2.heap.size ≤ k_ ∧ k_ < w3.heap.size) v1x l0) := ⟨by rw [hw_]; exact Kd.R_far HX1.out (p := ⟨g8, 0, none⟩) (fun k_ h_ => by have z1 := HZ1.out; have z2 := HZ2.out; have z3 := HZ3.out; have z4 := HZ4.out; have z5 := HZ5.out; have z6 := HZ6.out; have hg_ := HG8.out; show k_ ≠ g8; omega) _⟩; clear HX1; have HX1 := n_; clear n_; have n_ : Aside0 (Kd.R (Kd.int .i64) 3 w7 w.heap.size (fun k_ => w4.heap.size ≤ k_ ∧ k_ < w5.heap.size) (.slice Aq2 l0.length cq2) l0) := ⟨by rw [hw_]; exact Kd.R_far HX2.out (p := ⟨g8, 0, none⟩) (fun k_ h_ => by have z1 := HZ1.out; have z2 := HZ2.out; have z3 := HZ3.out; have z4 := HZ4.out; have z5 := HZ5.out; have z6 := HZ6.out; have hg_ := HG8.out; show k_ ≠ g8; omega) _⟩; clear HX2; have HX2 := n_; clear n_; have nb2_ : Aside0 (w7.heap[g2]? = some (.cells #[.slice A0 l0.length c0] 27 (0, 0))) := ⟨by rw [hw_]; exact (Below.heap_setCell _ _ _ _ (by have z1 := HZ1.out; have z2 := HZ2.out; have z3 := HZ3.out; have z4 := HZ4.out; have z5 := HZ5.out; have z6 := HZ6.out; have h1_ := HG2.out; have h2_ := HG8.out; show g2 ≠ g8; omega)).trans HBK2.out⟩; have nb8_ : Aside0 (w7.heap[g8]? = some (.cells #[.slice Aq2 l0.length cq2] 30 (0, 0))) := ⟨by rw [hw_]; exact one_setCell HBK8.out⟩; clear hcz2; clear hcz8; clear hw_; clear HBK2; have HBK2 := nb2_; clear nb2_; have hcz2 : w7.cell? ⟨g2, 0, none⟩ = some (.slice A0 l0.length c0) := (blk_cell HBK2.out 0).trans rfl; clear HBK8; have HBK8 := nb8_; clear nb8_; have hcz8 : w7.cell? ⟨g8, 0, none⟩ = some (.slice Aq2 l0.length cq2) := (blk_cell HBK8.out 0).trans rfl))
  obtain ⟨A2_, c2_, e2_, hl2_, hC2_⟩ := Kd.R_reads HX2.out
  have hcall_ := impl_LabelPolynomialAt.calls k _ _ l0 a1 v2 v3 _ hC2_ hl2_ hy4.out
  rw [← e2_] at hcall_
  refine hcall_.mono ?_
  clear hcall_ hC2_ hl2_ e2_ c2_ A2_
  rintro e w8 ⟨rfl, hb_⟩
  have HB8 := Aside0.mk hb_
  have HZ8 : Aside0 (w7.heap.size ≤ w8.heap.size) := ⟨hb_.size⟩
  have HT8 := Aside0.mk (HT7.out.trans (Below.mono hb_ HT7.out.size))
  clear hb_
  have n_ := Aside0.mk (Kd.R_below HX1.out HB8.out)
  clear HX1
  have HX1 := n_
  clear n_
  have n_ := Aside0.mk (Kd.R_below HX2.out HB8.out)
  clear HX2
  have HX2 := n_
  clear n_
  have n_ := Aside0.mk (blk_below HBK2.out HB8.out)
  clear HBK2 hcz2
  have HBK2 := n_
  clear n_
  have hcz2 : w8.cell? ⟨g2, 0, none⟩ = some (.slice A0 l0.length c0) := (blk_cell HBK2.out 0).trans rfl
  have n_ := Aside0.mk (blk_below HBK8.out HB8.out)
  clear HBK8 hcz8
  have HBK8 := n_
  clear n_
  have hcz8 : w8.cell? ⟨g8, 0, none⟩ = some (.slice Aq2 l0.length cq2) := (blk_cell HBK8.out 0).trans rfl
  go_wp2_with fail
  have HB9 := Aside0.mk (below_drew (Below.refl w8.heap.size w8))
  have HZ9 : Aside0 (w8.heap.size ≤ w8.drew.heap.size) := ⟨Nat.le_refl _⟩
  have HT9 := Aside0.mk (HT8.out.trans (Below.mono HB9.out HT8.out.size))
  have n_ := Aside0.mk (Kd.R_below HX1.out HB9.out)
  clear HX1
  have HX1 := n_
  clear n_
  have n_ := Aside0.mk (Kd.R_below HX2.out HB9.out)
  clear HX2
  have HX2 := n_
  clear n_
  have n_ := Aside0.mk (blk_below HBK2.out HB9.out)
  clear HBK2 hcz2
  have HBK2 := n_
  clear n_
  have hcz2 : w8.drew.cell? ⟨g2, 0, none⟩ = some (.slice A0 l0.length c0) := (blk_cell HBK2.out 0).trans rfl
  have n_ := Aside0.mk (blk_below HBK8.out HB9.out)
  clear HBK8 hcz8
  have HBK8 := n_
  clear n_
  have hcz8 : w8.drew.cell? ⟨g8, 0, none⟩ = some (.slice Aq2 l0.length cq2) := (blk_cell HBK8.out 0).trans rfl
  go_region_held3 (fun w_ => w_.cell? ⟨g2, 0, none⟩ = some (.slice A0 l0.length c0) ∧ w_.cell? ⟨g8, 0, none⟩ = some (.slice Aq2 l0.length cq2)) (exact ⟨hcz2, hcz8⟩) (first | (go_at_call 16; have hcall_ := laws_toPoset.calls k1 _ _ l0 l0 _ (Kd.C_below HR0.out HT9.out) HC0.out hy2.out; refine hcall_.mono ?_; clear hcall_; rintro e w10 ⟨v3x, rfl, hx3_, hb_⟩; have HB10 := Aside0.mk hb_; have HZ10 : Aside0 (w8.drew.heap.size ≤ w10.heap.size) := ⟨hb_.size⟩; have HT10 := Aside0.mk (HT9.out.trans (Below.mono hb_ HT9.out.size)); clear hb_; have n_ := Aside0.mk (Kd.R_below HX1.out HB10.out); clear HX1; have HX1 := n_; clear n_; have n_ := Aside0.mk (Kd.R_below HX2.out HB10.out); clear HX2; have HX2 := n_; clear n_; have n_ := Aside0.mk (blk_below HBK2.out HB10.out); clear HBK2 hcz2; have HBK2 := n_; clear n_; have hcz2 : w10.cell? ⟨g2, 0, none⟩ = some (.slice A0 l0.length c0) := (blk_cell HBK2.out 0).trans rfl; have n_ := Aside0.mk (blk_below HBK8.out HB10.out); clear HBK8 hcz8; have HBK8 := n_; clear n_; have hcz8 : w10.cell? ⟨g8, 0, none⟩ = some (.slice Aq2 l0.length cq2) := (blk_cell HBK8.out 0).trans rfl; have HX3 := Aside0.mk (Kd.R_lower (Kd.R_mono (ok' := fun k_ => w8.drew.heap.size ≤ k_ ∧ k_ < w10.heap.size) (Kd.R_bound hx3_) (fun k_ h_ => ⟨h_.2.1, h_.2.2.1⟩)) HT9.out.size); clear hx3_) | (go_at_call 18; obtain ⟨A2_, c2_, e2_, hl2_, hC2_⟩ := Kd.R_reads HX2.out; obtain ⟨A3_, c3_, e3_, hl3_, hC3_⟩ := Kd.R_reads HX3.out; have hcall_ := laws_eqPoset.calls k1 _ _ l0 _ _ l0 true _ hC2_ hl2_ hC3_ hl3_ hy5.out; rw [← e2_] at hcall_; rw [← e3_] at hcall_; refine hcall_.mono ?_; clear hcall_ hC2_ hl2_ e2_ c2_ A2_ hC3_ hl3_ e3_ c3_ A3_; rintro e w11 ⟨rfl, hb_⟩; have HB11 := Aside0.mk hb_; have HZ11 : Aside0 (w10.heap.size ≤ w11.heap.size) := ⟨hb_.size⟩; have HT11 := Aside0.mk (HT10.out.trans (Below.mono hb_ HT10.out.size)); clear hb_; have n_ := Aside0.mk (Kd.R_below HX1.out HB11.out); clear HX1; have HX1 := n_; clear n_; have n_ := Aside0.mk (Kd.R_below HX2.out HB11.out); clear HX2; have HX2 := n_; clear n_; have n_ := Aside0.mk (Kd.R_below HX3.out HB11.out); clear HX3; have HX3 := n_; clear n_; have n_ := Aside0.mk (blk_below HBK2.out HB11.out); clear HBK2 hcz2; have HBK2 := n_; clear n_; have hcz2 : w11.cell? ⟨g2, 0, none⟩ = some (.slice A0 l0.length c0) := (blk_cell HBK2.out 0).trans rfl; have n_ := Aside0.mk (blk_below HBK8.out HB11.out); clear HBK8 hcz8; have HBK8 := n_; clear n_; have hcz8 : w11.cell? ⟨g8, 0, none⟩ = some (.slice Aq2 l0.length cq2) := (blk_cell HBK8.out 0).trans rfl))
  go_wp2
  go_ret
  exact ⟨by first | rfl | (simp; done) | (simp [*]; done), by repeat (first | (with_reducible first | exact HT11.out | apply below_alloc | apply pw_below_drewN | apply below_drew1) | exact HT11.out)⟩
open Classical in
noncomputable def laws_FnExactLabelPolynomialAt.f (k : Nat) (l0 : List Int) (a1 : Int) : Option Bool := if ∃ k1 : Nat, (∃ (z1 : Int), (laws_szPoset.f l0 1048576 = some z1) ∧ (decide (z1 < 0) = true)) ∨ (∃ (z1 : Int) (v2 : Int) (v3 : Bool), (laws_szPoset.f l0 1048576 = some z1) ∧ (decide (z1 < 0) = false) ∧ (laws_toPoset.f k1 l0 = some l0) ∧ (spec_LabelPolynomialAt.f k l0 a1 = some (v2, v3)) ∧ (impl_LabelPolynomialAt.f k l0 a1 = some (v2, v3)) ∧ (laws_eqPoset.f k1 l0 l0 = some true)) then some true else none
theorem laws_FnExactLabelPolynomialAt.calls (k : Nat) (A0 : Option Addr) (c0 : Nat) (l0 : List Int) (a1 : Int) (r : Bool) (w : World) (hr0 : Kd.C (Kd.int .i64) w A0 l0.length l0) (hc0 : l0.length ≤ c0) (h : laws_FnExactLabelPolynomialAt.f k l0 a1 = some r) :
    Calls Try.prog 7 #[.agg #[.slice A0 l0.length c0], .int .i64 a1] w fun e w' => e = .returned (.bool r) ∧ Below w.heap.size w w' := by
  unfold laws_FnExactLabelPolynomialAt.f at h
  split at h
  · rename_i hh
    obtain rfl := Option.some.inj h
    obtain ⟨k1, hh⟩ := hh
    rcases hh with ⟨z1, hy0, hx⟩ | ⟨z1, v2, v3, hy0, hy1, hy2, hy3, hy4, hy5⟩
    · exact laws_FnExactLabelPolynomialAt.calls0 k k1 _ _ l0 a1 z1 w hr0 hc0 hy0 hx
    · exact laws_FnExactLabelPolynomialAt.calls1 k k1 _ _ l0 a1 z1 v2 v3 w hr0 hc0 hy0 hy1 hy2 hy3 hy4 hy5
  · cases h
end Go.Proofs.Ytemkddgfneohhaa.F
end
