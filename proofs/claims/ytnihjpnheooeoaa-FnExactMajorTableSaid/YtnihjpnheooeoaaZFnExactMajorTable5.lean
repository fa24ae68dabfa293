/- Part 5 of the texts below the row of FnExactMajorTable: printed functions with their contracts, and plain lemmas. No condition. -/
import Derived.Test.YtnihjpnheooeoaaZFnExactMajorTable4
import Derived.Lib.SliceRun
import Derived.Lib.Hide
import Derived.Shelf.SlicesE.DeleteFunc
import Derived.Deep.RegionHeld3
import Derived.Deep.RegionWith
import Derived.OneCell
import Derived.Laws.EntriesVeiled
section
namespace Go.Proofs.Ytnihjpnheooeoaa.F
open Go.RowKit Go.Proofs.YtnihjpnheooeoaaW.PrintWords Go.Proofs.YtnihjpnheooeoaaW.PrintLast Go.Proofs.YtnihjpnheooeoaaW.PrintMore
set_option linter.unusedVariables false
set_option linter.unusedSimpArgs false
def slices_Clone_int_int.f (l0 : List Int) : Option (List Int) := if l0.length < 17592186044416 then some l0 else none
theorem slices_Clone_int_int.info : (Try.prog.info? 3).map (fun i => (i.zero, i.size, i.bytes)) = some (some (.int .i64 0), 1, 8) := by kernel_rfl
theorem slices_Clone_int_int.nil_ (w : World) (a : Option Addr) (n c n' c' : Nat) : (binOp .eql 25 (.slice a n c) (.slice none n' c')).run Try.prog w = .ok (.bool a.isNone) w := Lib.run_eql_slice_nil w _ _ a n c n' c' Try.underlying25
set_option maxHeartbeats 8000000 in
set_option maxRecDepth 100000 in
theorem slices_Clone_int_int.calls (A0 : Option Addr) (c0 : Nat) (l0 : List Int) (r : List Int) (w : World) (hr0 : Kd.C (Kd.int .i64) w A0 l0.length l0) (hc0 : l0.length ≤ c0) (h : slices_Clone_int_int.f l0 = some r) :
    Calls Try.prog 64 #[.slice A0 l0.length c0] w fun e w' => ∃ v0_ : Value, e = .returned (v0_) ∧ Kd.R (Kd.int .i64) 3 w' w.heap.size (fun _ => True) v0_ r ∧ Below w.heap.size w w' := by
  unfold slices_Clone_int_int.f at h
  by_cases c2 : l0.length < 17592186044416
  · rw [if_pos c2] at h
    obtain rfl := Option.some.inj h
    clear h
    have LMc2 := Aside0.mk c2
    clear c2
    cases A0 with
    | none =>
      have h0 : l0.length = 0 := by
        rcases Nat.eq_zero_or_pos l0.length with h | h
        · exact h
        · obtain ⟨ad, e, _⟩ := hr0.2.2 h; cases e
      obtain rfl : l0 = [] := List.length_eq_zero_iff.1 h0
      clear h0 hr0 hc0 LMc2
      have q22 := slices_Clone_int_int.nil_
      go_enter Try.func64, Try.ntmps64
      go_wp2
      go_ret
      exact ⟨_, rfl, Kd.R_nil _ _ _ _ _, Below.refl _ _⟩
    | some ad =>
      have HR0 := Aside0.mk hr0
      have HC0 := Aside0.mk hc0
      clear hr0 hc0
      have HB := Aside0.mk (Below.refl w.heap.size w)
      have q22 := slices_Clone_int_int.nil_
      go_enter Try.func64, Try.ntmps64
      go_wp2_with (first | ((with_reducible refine gate_dst (N := 5) rfl ?_); refine Kd.R_lit (Kd.int .i64) _ 3 ?hg (N := 5) ?hd (xs := ([] : List Int)) (inner := []) (ok := fun _ => True) (okp := fun _ => True) ?hr ?hp (fun _ hk => hk) trivial (Below.refl _ _) (Nat.le_refl _) (by simp) ?_; (case hd => rfl); (case hg => rfl); (case hr => first | (go_simp; done) | (go_simp; rfl)); (case hp => exact (Reps.none _ _)); intro v663 w3 ho4 hb hg_ hnew_; clear hg_ hnew_; have n0_ := Aside0.mk (Kd.R_lower ho4 (below_size (by repeat (first | (with_reducible first | exact HB.out | apply below_alloc | apply pw_below_drewN | apply below_drew1) | exact HB.out)))); have n1_ := Aside0.mk (below_step (by repeat (first | (with_reducible first | exact HB.out | apply below_alloc | apply pw_below_drewN | apply below_drew1) | exact HB.out)) hb); clear HB; have HO664 := n0_; have HB := n1_; clear n0_ n1_; clear hb ho4) | ((with_reducible refine gate_builtin (b := .append) (xs := #[.tmp 5, .tmp 6]) rfl ?_); at_builtin; refine Kd.R_append_rows (Kd.int .i64) (w0 := w) w.heap.size rfl (.tmp 5) (.tmp 6) 25 3 (.int .i64 0) 8 rfl Try.underlying25 slices_Clone_int_int.info rfl (by decide) (by omega) v663 [] l0 _ _ _ (fun _ => True) (fun _ => False) rfl rfl ?aO ?aR (fun _ _ h => h) (fun _ h => h.elim) ?aF ?aB ?aS ?aL ?_; (case aR => repeat (first | exact (Kd.C_below HR0.out HB.out) | (with_reducible refine Kd.C_alloc ?_ _) | (with_reducible refine Kd.C_drewN ?_ _) | (with_reducible refine Kd.C_drew ?_))); (case aB => exact (by repeat (first | (with_reducible first | exact HB.out | apply below_alloc | apply pw_below_drewN | apply below_drew1) | exact HB.out))); (case aF => exact (fun _ _ => trivial)); (case aO => exact (by (with_reducible repeat (first | apply Kd.R_alloc | apply Kd.R_drewN | apply Kd.R_drew)); exact HO664.out)); (case aS => exact (below_size (by repeat (first | (with_reducible first | exact HB.out | apply below_alloc | apply pw_below_drewN | apply below_drew1) | exact HB.out)))); (case aL => have := LMc2.out; simp; omega); intro v666 w5 ho hb hg hat; rw [List.nil_append] at ho; have n0_ := Aside0.mk (hb); have n1_ := Aside0.mk (ho); clear HB; clear HO664; have HB := n0_; have HO667 := n1_; clear n0_ n1_; clear ho hb hg hat))
      go_ret
      exact ⟨_, by first | rfl | (simp; done) | (simp [*]; done), by (with_reducible repeat (first | apply Kd.R_alloc | apply Kd.R_drewN | apply Kd.R_drew)); exact HO667.out, by repeat (first | (with_reducible first | exact HB.out | apply below_alloc | apply pw_below_drewN | apply below_drew1) | exact HB.out)⟩
  · rw [if_neg c2] at h; cases h
end Go.Proofs.Ytnihjpnheooeoaa.F
end

section
namespace Go.Proofs.Ytnihjpnheooeoaa.F
open Go.RowKit Go.Proofs.YtnihjpnheooeoaaW.PrintWords Go.Proofs.YtnihjpnheooeoaaW.PrintLast Go.Proofs.YtnihjpnheooeoaaW.PrintMore
set_option linter.unusedVariables false
set_option linter.unusedSimpArgs false
def impl_major.f (k : Nat) (l0 : List (List Int)) : Option Int := (impl_descents.f k l0).bind fun l => sum_major.f (fun x => lit_major.f x) k l
theorem impl_major.mono : ∀ a0 k, LeO (impl_major.f k a0) (impl_major.f (k + 1) a0) := fun a0 k => LeO.bind (impl_descents.mono _ _) (fun _ => sum_major.mono _ _ _)
set_option maxHeartbeats 8000000 in
set_option maxRecDepth 100000 in
theorem impl_major.calls (k : Nat) (A0 : Option Addr) (c0 : Nat) (l0 : List (List Int)) (r : Int) (w : World) (hr0 : Kd.C (Kd.slice 3 (Kd.int .i64)) w A0 l0.length l0) (hc0 : l0.length ≤ c0) (h : impl_major.f k l0 = some r) :
    Calls Try.prog 70 #[.slice A0 l0.length c0] w fun e w' => e = .returned (.int .i64 r) ∧ Below w.heap.size w w' := by
  unfold impl_major.f at h
  obtain ⟨l, hd, hs⟩ := Option.bind_eq_some_iff.1 h
  clear h
  have hdesc := Aside0.mk (impl_descents.calls k A0 c0 l0 l w hr0 hc0 hd)
  have hsum : Aside0 (∀ (W1 : World) (A : Option Addr) (c : Nat), Kd.C (Kd.int .i64) W1 A l.length l → l.length ≤ c → Calls Try.prog 86 #[.slice A l.length c, .func (.func 88) #[] #[]] W1 fun e w' => e = .returned (.int .i64 r) ∧ Drawn0 W1 w') :=
    ⟨fun W1 A c hr hc => sum_major.calls (fun x => lit_major.f x) k A c l r W1 ⟨fun x r_ W' hF hb' => lit_major.calls x r_ W' hF⟩ hr hc hs⟩
  clear hd hs hr0 hc0
  go_enter Try.func70, Try.ntmps70
  go_wp2_with fail
  refine hdesc.out.mono ?_
  rintro e w1 ⟨v, rfl, ho, hb⟩
  obtain ⟨A, c, rfl, hl, hr⟩ := Kd.R_reads ho
  have Hc := Aside0.mk (hsum.out w1 A c hr hl)
  have Hb := Aside0.mk hb
  clear ho hl hr hb hsum hdesc
  go_wp2_with (go_at_call 86; (with_reducible refine Hc.out.mono ?_); rintro e w' ⟨rfl, ⟨nd, rfl⟩⟩)
  go_ret
  refine ⟨rfl, ?_⟩
  repeat (first | exact Hb.out | apply pw_below_drewN | apply below_drew1)
end Go.Proofs.Ytnihjpnheooeoaa.F
end

section
namespace Go.Proofs.Ytnihjpnheooeoaa.F
open Go.RowKit Go.Proofs.YtnihjpnheooeoaaW.PrintWords Go.Proofs.YtnihjpnheooeoaaW.PrintLast Go.Proofs.YtnihjpnheooeoaaW.PrintMore
set_option linter.unusedVariables false
set_option linter.unusedSimpArgs false
/-- Whether an element is struck. -/
def nextDel (p : List Int) (s x : Int) : Bool := Go.bits .andNot .i64 (rd p x) s != 0
def impl_Poset_next.f (k : Nat) (l0_0 : List Int) (a1 : Int) : Option (List Int) :=
  (impl_Poset_all.f l0_0).bind fun t => (impl_items.f k (Go.bits .andNot .i64 t a1)).bind fun l => if (∀ x ∈ l, 0 ≤ x ∧ x < (l0_0.length : Int)) ∧ (1 ≤ l0_0.length ∧ l.length ≤ 1000) then some (l.filter fun x => !nextDel l0_0 a1 x) else none
theorem impl_Poset_next.mono : ∀ a0 a1 k, LeO (impl_Poset_next.f k a0 a1) (impl_Poset_next.f (k + 1) a0 a1) := fun a0 a1 k => LeO.bind (LeO.refl _) (fun _ => LeO.bind (impl_items.mono _ _) (fun _ => LeO.refl _))
set_option maxHeartbeats 8000000 in
set_option maxRecDepth 100000 in
theorem next_lit (gp gs : Nat) (e : Nat) (A0 : Option Addr) (c0 : Nat) (p : List Int) (s : Int) (w : World) (hp : w.cell? ⟨gp, 0, none⟩ = some (.slice A0 p.length c0)) (hs : w.cell? ⟨gs, 0, none⟩ = some (.int .i64 s)) (hr : Kd.C (Kd.int .i64) w A0 p.length p) (he : e < p.length) :
    Calls Try.prog 90 #[.int .i64 (e : Int), .pointer (some ⟨gp, 0, none⟩), .pointer (some ⟨gs, 0, none⟩)] w fun en w' => en = .returned (.bool (nextDel p s (e : Int))) ∧ ∃ q, w' = w.drewN q := by
  have hu28 := Try.underlying34
  unfold nextDel
  obtain ⟨ad, rfl, hc⟩ := Kd.at_int hr (e : Int) (by omega) (by omega)
  rw [Int.toNat_natCast] at hc
  have c1 : 0 ≤ (e : Int) := by omega
  have c2 : (e : Int) < (p.length : Int) := by omega
  have c3 : decide (e < p.length) = true := decide_eq_true he
  have c4 : (e < p.length) = True := eq_true he
  clear hr
  go_enter Try.func90, Try.ntmps90
  go_wp2_with (fail)
  go_quiet (fail)
  go_wp2
  go_ret
  exact ⟨rfl, _, rfl⟩
def next_ren : Go.Shelf.Ren := ⟨fun | 6 => 103 | 10 => 89 | n => n, fun | 0 => 0 | 3 => 3 | 4 => 4 | 22 => 25 | 23 => 3 | 25 => 24 | n => n, fun n => n⟩
theorem next_lay : SlLaysH.n10 Try.prog next_ren := {
  mixed := by kernel_rfl
  f6 := ⟨Try.f103.name, by decide, Try.func103⟩
  f10 := ⟨Try.f89.name, by decide, Try.func89⟩
  t0 := by kernel_rfl
  a0 := fun w => by kernel_rfl
  z0 := fun w => by kernel_rfl
  v0 := fun w => by kernel_rfl
  t3 := by kernel_rfl
  a3 := fun w => by kernel_rfl
  z3 := fun w => by kernel_rfl
  v3 := fun w => by kernel_rfl
  t4 := by kernel_rfl
  a4 := fun w => by kernel_rfl
  z4 := fun w => by kernel_rfl
  v4 := fun w => by kernel_rfl
  t22 := by kernel_rfl
  a22 := fun w => by kernel_rfl
  z22 := fun w => by kernel_rfl
  v22 := fun w => by kernel_rfl
  a23 := fun w => by kernel_rfl
  z23 := fun w => by kernel_rfl
  t25 := by kernel_rfl
  a25 := fun w => by kernel_rfl
  z25 := fun w => by kernel_rfl
  v25 := fun w => by kernel_rfl }
def finV {n : Nat} (x : Fin n) : Int := ((x : Nat) : Int)
def finE {n : Nat} (x : Fin n) : Value := .int .i64 (finV x)
theorem fin_list {n : Nat} (l : List Int) (h : ∀ x ∈ l, 0 ≤ x ∧ x < (n : Int)) : ∃ lf : List (Fin n), l = lf.map finV := by
  induction l with
  | nil => exact ⟨[], rfl⟩
  | cons x l ih =>
    obtain ⟨lf, e⟩ := ih (fun y hy => h y (List.mem_cons_of_mem _ hy))
    have hx := h x List.mem_cons_self
    refine ⟨⟨x.toNat, by omega⟩ :: lf, ?_⟩
    rw [List.map_cons, ← e]
    show _ = finV _ :: l
    unfold finV
    congr 1
    show x = ((x.toNat : Nat) : Int)
    omega
theorem next_C {w W : World} {A : Option Addr} {n : Nat} {p : List Int} (h : Kd.C (Kd.int .i64) w A n p) (hc : ∀ a : Addr, A.map (·.block) = some a.block → ∀ v, w.cell? a = some v → W.cell? a = some v) : Kd.C (Kd.int .i64) W A n p := by
  obtain ⟨h1, h2, h3⟩ := Kd.reads_of_C (d := (0 : Int)) h
  refine Kd.C_of_reads (d := (0 : Int)) ⟨h1, h2, fun hn => ?_⟩
  obtain ⟨ad, e, hr⟩ := h3 hn
  refine ⟨ad, e, fun j hj => hc _ ?_ _ (hr j hj)⟩
  subst e
  unfold Addr.add
  split <;> rfl
section
open Go.Sort Go.Shelf Go.Lib
theorem next_del {n : Nat} (hn : 0 < n) (gp gs g cap : Nat) (lf : List (Fin n)) (A0 : Option Addr) (c0 : Nat) (p : List Int) (hpn : p.length = n) (s : Int) (W : World) (base : Nat) (ok : Nat → Prop)
    (hR : Kd.R (Kd.int .i64) 3 W base ok (.slice (some ⟨g, 0, none⟩) (lf.map finV).length cap) (lf.map finV)) (hl : lf.length ≤ 1000) (hp : W.cell? ⟨gp, 0, none⟩ = some (.slice A0 p.length c0)) (hs : W.cell? ⟨gs, 0, none⟩ = some (.int .i64 s)) (hr : Kd.C (Kd.int .i64) W A0 p.length p)
    (n1 : gp ≠ g) (n2 : gs ≠ g) (n3 : ∀ ad, A0 = some ad → ad.block ≠ g) :
    Calls Try.prog 89 #[.slice (some ⟨g, 0, none⟩) (lf.map finV).length cap, .func (.func 90) #[] #[.pointer (some ⟨gp, 0, none⟩), .pointer (some ⟨gs, 0, none⟩)]] W fun e w' =>
      ∃ v : Value, e = .returned v ∧ Kd.R (Kd.int .i64) 3 w' base ok v ((lf.map finV).filter fun x => !nextDel p s x) ∧ W.grownBy w' (some g) := by
  have hInh : Inhabited (Fin n) := ⟨⟨0, hn⟩⟩
  have hown := Kd.own_of_R hR
  have hok := hR.1
  obtain ⟨hx1, hx2⟩ := hown
  rcases hx2 with ⟨e, _⟩ | ⟨g', cap', cur, e, hg, hh, hnc, hcm, hcs, ht⟩
  · cases e
  injection e with e1 e2 e3
  injection e1 with e4
  injection e4 with e5
  subst e5; subst e3
  have hlen : (lf.map finV).length = lf.length := List.length_map _
  have hcell : ∀ j (hj : j < lf.length), cur[j]? = some (finE lf[j]) := fun j hj => by
    have h1 : (cur.toList.take ((lf.map finV).length * 1))[j]? = some (finE lf[j]) := by
      rw [ht]
      unfold encs
      rw [List.getElem?_map, List.getElem?_map, List.getElem?_eq_getElem hj]; rfl
    rw [List.getElem?_take, if_pos (by omega)] at h1
    simpa using h1
  have hH : Holds (finE (n := n)) W g 0 lf.toArray := fun j hj => by
    have hj' : j < lf.length := by simpa using hj
    refine ⟨?_, blk_frozen hh _⟩
    rw [Nat.zero_add, blk_cell hh j, hcell j hj']
    congr 2
    simp [getElem!_pos, hj']
  have eg : ∀ args w, (callFunc 90 args).run Try.prog w = .ok (.enter 90 args) w := enters_of Try.func90 (by kernel_rfl) rfl
  have lp := World.block_lt_of_cell? W _ hp
  have ls := World.block_lt_of_cell? W _ hs
  have hP : PredAt Try.prog 90 #[.pointer (some ⟨gp, 0, none⟩), .pointer (some ⟨gs, 0, none⟩)] (finE (n := n)) (fun x => nextDel p s (finV x)) W := fun W1 x hb =>
    next_lit gp gs x A0 c0 p s W1 ((hb.cell (p := ⟨gp, 0, none⟩) lp).trans hp) ((hb.cell (p := ⟨gs, 0, none⟩) ls).trans hs) (Kd.C_below hr hb) (by have := x.2; omega)
  have hO : PredOver Try.prog 90 #[.pointer (some ⟨gp, 0, none⟩), .pointer (some ⟨gs, 0, none⟩)] (finE (n := n)) (fun x => nextDel p s (finV x)) g 0 lf.toArray.size W := fun m os dk x _ => by
    have hcl : ∀ a : Addr, a.block ≠ g → ∀ v, W.cell? a = some v → (sortWorld (finE (n := n)) W g 0 m dk os).cell? a = some v := fun a ha v hv => by
      have hlt := World.block_lt_of_cell? W _ hv
      unfold sortWorld
      rw [cell?_grow _ _ _ (by rw [size_putRow]; exact hlt), cell?_putRow_other _ _ _ _ _ _ (Or.inl ha)]
      exact hv
    refine next_lit gp gs x A0 c0 p s _ (hcl _ n1 _ hp) (hcl _ n2 _ hs) (next_C hr (fun a ha v hv => hcl a ?_ v hv)) (by have := x.2; omega)
    cases A0 with
    | none => cases ha
    | some ad =>
      have h3 : ad.block = a.block := Option.some.inj ha
      rw [← h3]; exact n3 ad rfl
  have hcon := AnyE.slices_DeleteFunc next_lay (finE (n := n)) (fun _ => rfl) (fun x => nextDel p s (finV x)) 90 #[.pointer (some ⟨gp, 0, none⟩), .pointer (some ⟨gs, 0, none⟩)] eg ⟨0, hn⟩ (fun w => by kernel_rfl) g 0 cap lf.toArray W hP hO hH (by simp; omega) (by simp; omega)
  have hsz : lf.toArray.size = (lf.map finV).length := by simp
  rw [hsz] at hcon
  refine Calls.mono hcon ?_
  rintro e w' ⟨rfl, q, rfl⟩
  have hf : (lf.map finV).filter (fun x => !nextDel p s x) = (lf.filter fun x => !nextDel p s (finV x)).map finV := by rw [List.filter_map]; rfl
  rw [hf]
  generalize hF : lf.filter (fun x => !nextDel p s (finV x)) = ff
  have hle : ff.length ≤ lf.length := by rw [← hF]; exact List.length_filter_le _ _
  generalize hD : (ff ++ List.replicate ((lf.map finV).length - ff.length) (⟨0, hn⟩ : Fin n)).toArray = D
  have hDs : ff.length ≤ D.size := by rw [← hD]; simp
  have hDg : ∀ j (hj : j < ff.length), D[j]! = ff[j] := fun j hj => by
    rw [getElem!_pos D j (by omega)]
    subst hD
    simp [List.getElem_append_left hj]
  have hhp : (putRow finE (Sort.ahead W q) g 0 D).heap[g]? = some (.cells (putCells finE 0 D cur) 3 (0, 0)) := by
    simp [putRow, mapBlock, Array.getElem?_modify, Sort.ahead, hh, onCells]
  have hown' : (putRow finE (Sort.ahead W q) g 0 D).ownsRow base 3 1 (.slice (some ⟨g, 0, none⟩) ff.length cap) (ff.map finV).length (encs (Value.int .i64) (ff.map finV)) := by
    refine ⟨by simp [encs], .inr ⟨g, cap, putCells finE 0 D cur, by rw [List.length_map], hg, hhp, by rw [List.length_map]; omega, hcm, by simp [putCells]; omega, ?_⟩⟩
    apply List.ext_getElem?
    intro j
    rw [List.getElem?_take]
    unfold encs
    rw [List.getElem?_map, List.getElem?_map, List.length_map, Nat.mul_one]
    by_cases hj : j < ff.length
    · rw [if_pos hj, List.getElem?_eq_getElem hj]
      have hjc : j < cur.size := by omega
      simp only [putCells, Array.getElem?_toList, Array.getElem?_mapIdx, Option.map_some]
      rw [Array.getElem?_eq_getElem hjc, Option.map_some, if_pos (by omega), Nat.sub_zero, hDg j hj]
      rfl
    · rw [if_neg hj, List.getElem?_eq_none (by omega)]; rfl
  refine ⟨_, rfl, Kd.R_of_own hown' (fun k hk => hok k hk), ?_⟩
  refine ⟨rfl, rfl, rfl, ?_, ?_⟩
  · simp [putRow, mapBlock, Sort.ahead]
  · intro k hk hne
    have hne' : g ≠ k := fun e => hne (by rw [e])
    simp [putRow, mapBlock, Array.getElem?_modify, Sort.ahead, hne']
theorem next_nil (A : Option Addr) (c : Nat) (fv : Value) (W : World) : Calls Try.prog 89 #[.slice A 0 c, fv] W fun e w' => e = .returned (.slice A 0 c) ∧ ∃ q, w' = W.drewN q := by
  have hi := Aside0.mk (AnyE.slices_IndexFunc_empty (P := Try.prog) (ρ := next_ren) { next_lay with } A c fv W)
  go_enter Try.func89, Try.ntmps89
  go_wp2_with (go_at_call 103; refine hi.out.mono ?_; rintro e w' ⟨rfl, rfl⟩)
  go_ret
  exact ⟨rfl, 0, rfl⟩
end
theorem next_any (gp gs : Nat) (v : Value) (l : List Int) (A0 : Option Addr) (c0 : Nat) (p : List Int) (s : Int) (W : World) (base : Nat)
    (hR : Kd.R (Kd.int .i64) 3 W base (fun _ => True) v l) (hin : (∀ x ∈ l, 0 ≤ x ∧ x < (p.length : Int)) ∧ (1 ≤ p.length ∧ l.length ≤ 1000)) (hp : W.cell? ⟨gp, 0, none⟩ = some (.slice A0 p.length c0)) (hs : W.cell? ⟨gs, 0, none⟩ = some (.int .i64 s)) (hr : Kd.C (Kd.int .i64) W A0 p.length p)
    (n1 : gp < base) (n2 : gs < base) (n3 : ∀ ad, A0 = some ad → ad.block < base) :
    Calls Try.prog 89 #[v, .func (.func 90) #[] #[.pointer (some ⟨gp, 0, none⟩), .pointer (some ⟨gs, 0, none⟩)]] W fun e w' =>
      ∃ v' : Value, e = .returned v' ∧ Kd.R (Kd.int .i64) 3 w' base (fun _ => True) v' (l.filter fun x => !nextDel p s x) ∧ W.grownBy w' v.ownBlock := by
  rcases (Kd.own_of_R hR).2 with ⟨rfl, h0⟩ | ⟨g, cap, cur, e, hg, hh, r⟩
  · obtain rfl : l = [] := List.length_eq_zero_iff.1 h0
    refine (next_nil none 0 _ W).mono ?_
    rintro e w' ⟨rfl, q, rfl⟩
    exact ⟨_, rfl, Kd.R_nil _ _ _ _ _, ⟨rfl, rfl, rfl, Nat.le_refl _, fun _ _ _ => rfl⟩⟩
  · subst e
    obtain ⟨lf, rfl⟩ := fin_list l hin.1
    refine (next_del (by omega) gp gs g cap lf A0 c0 p rfl s W base _ hR (by have := hin.2.2; rw [List.length_map] at this; exact this) hp hs hr (by omega) (by omega) (fun ad h => by have := n3 ad h; omega)).mono ?_
    rintro e w' ⟨v', rfl, hr', hgr⟩
    exact ⟨v', rfl, hr', hgr⟩
theorem next_held_call {w W w1 : World} {a b : Addr} {u v : Value} (h : W.cell? a = some u ∧ W.cell? b = some v ∧ Below w.heap.size w W) (hb : Below W.heap.size W w1) : w1.cell? a = some u ∧ w1.cell? b = some v ∧ Below w.heap.size w w1 :=
  ⟨(hb.cell (p := a) (World.block_lt_of_cell? _ _ h.1)).trans h.1, (hb.cell (p := b) (World.block_lt_of_cell? _ _ h.2.1)).trans h.2.1, below_step h.2.2 hb⟩
theorem next_held_lt {w W w1 : World} {a b : Addr} {u v : Value} (h : W.cell? a = some u ∧ W.cell? b = some v ∧ Below w.heap.size w W) (hb : Below W.heap.size W w1) : b.block < W.heap.size ∧ w.heap.size ≤ W.heap.size := ⟨World.block_lt_of_cell? _ _ h.2.1, h.2.2.size⟩
theorem next_held_row {W : World} {base b : Nat} {ok : Nat → Prop} {v : Value} {l : List Int} (h : Kd.R (Kd.int .i64) 3 W base ok v l) (hb : b < base) : ∀ k, v.ownBlock = some k → b < k := fun k hk => Nat.lt_of_lt_of_le hb ((Kd.R_bound h).1 k hk).2.1
theorem next_held_grown {w W w1 : World} {u v : Value} {row : Option Nat} (h : W.cell? ⟨w.heap.size, 0, none⟩ = some u ∧ W.cell? ⟨w.heap.size + 1, 0, none⟩ = some v ∧ Below w.heap.size w W) (hg : W.grownBy w1 row) (hr : ∀ k, row = some k → w.heap.size + 1 < k) : w1.cell? ⟨w.heap.size, 0, none⟩ = some u ∧ w1.cell? ⟨w.heap.size + 1, 0, none⟩ = some v ∧ Below w.heap.size w w1 := by
  have l1 : w.heap.size < W.heap.size := World.block_lt_of_cell? _ _ h.1
  have l2 : w.heap.size + 1 < W.heap.size := World.block_lt_of_cell? _ _ h.2.1
  refine ⟨(World.cell?_of_block (hg.block _ l1 (fun e => ?_))).trans h.1, (World.cell?_of_block (hg.block _ l2 (fun e => ?_))).trans h.2.1, h.2.2.trans ⟨hg.os, hg.tape, hg.output, hg.size, fun k hk => hg.block k (by omega) (fun e => ?_)⟩⟩
  · have := hr _ e.symm; change w.heap.size + 1 < w.heap.size at this; omega
  · have := hr _ e.symm; change w.heap.size + 1 < w.heap.size + 1 at this; omega
  · have := hr _ e.symm; omega
theorem next_held_drew {w W : World} {a b : Addr} {u v : Value} (h : W.cell? a = some u ∧ W.cell? b = some v ∧ Below w.heap.size w W) : W.drew.cell? a = some u ∧ W.drew.cell? b = some v ∧ Below w.heap.size w W.drew := ⟨h.1, h.2.1, below_drew h.2.2⟩
theorem next_held_start (w : World) (u v : Value) (t t' : TypeId) : ((w.alloc (.cells #[u] t)).alloc (.cells #[v] t')).cell? ⟨w.heap.size, 0, none⟩ = some u ∧ ((w.alloc (.cells #[u] t)).alloc (.cells #[v] t')).cell? ⟨w.heap.size + 1, 0, none⟩ = some v ∧ Below w.heap.size w ((w.alloc (.cells #[u] t)).alloc (.cells #[v] t')) := by
  refine ⟨?_, ?_, below_alloc (below_alloc (Below.refl _ _) _) _⟩
  · rw [World.cell?_alloc_past _ _ _ (by simp), World.cell?_alloc_at _ _ _ _ rfl]; rfl
  · rw [World.cell?_alloc_at _ _ _ _ (by simp)]; rfl
set_option maxHeartbeats 8000000 in
set_option maxRecDepth 100000 in
theorem impl_Poset_next.calls (k : Nat) (A0_0 : Option Addr) (c0_0 : Nat) (l0_0 : List Int) (a1 : Int) (r : List Int) (w : World) (hr0_0 : Kd.C (Kd.int .i64) w A0_0 l0_0.length l0_0) (hc0_0 : l0_0.length ≤ c0_0) (h : impl_Poset_next.f k l0_0 a1 = some r) :
    Calls Try.prog 79 #[.agg #[.slice A0_0 l0_0.length c0_0], .int .i64 a1] w fun e w' => ∃ v0_ : Value, e = .returned (v0_) ∧ Kd.R (Kd.int .i64) 3 w' w.heap.size (fun _ => True) v0_ r ∧ Below w.heap.size w w' := by
  unfold impl_Poset_next.f at h
  obtain ⟨t, hall, h⟩ := Option.bind_eq_some_iff.1 h
  obtain ⟨l, hit, h⟩ := Option.bind_eq_some_iff.1 h
  split at h
  rotate_left
  · cases h
  rename_i hin
  have HF := Aside0.mk (Option.some.inj h)
  have HALL := Aside0.mk hall
  have HIT := Aside0.mk hit
  have HIN := Aside0.mk hin
  have HR := Aside0.mk hr0_0
  have HC := Aside0.mk hc0_0
  have HL : Aside0 (∀ ad, A0_0 = some ad → ad.block < w.heap.size) := ⟨fun ad e => by
    obtain ⟨ad', e', hc⟩ := Kd.at_int hr0_0 0 (by omega) (by have := hin.2.1; omega)
    rw [e] at e'
    obtain rfl := Option.some.inj e'
    have := World.block_lt_of_cell? w _ hc
    unfold Addr.add at this
    split at this <;> exact this⟩
  have hmf : ∀ (fn : Fn) (first cap : Array Value) (w : World), (Instr.makeFunc fn first cap).run Try.prog w = .ok (.func fn first cap) w := fun _ _ _ _ => rfl
  clear h hall hit hin hr0_0 hc0_0
  go_enter Try.func79, Try.ntmps79
  go_wp2_with (fail)
  go_region_held3 (fun w' => w'.cell? ⟨w.heap.size, 0, none⟩ = some (.slice A0_0 l0_0.length c0_0) ∧ w'.cell? ⟨w.heap.size + 1, 0, none⟩ = some (.int .i64 a1) ∧ Below w.heap.size w w')
    (first | exact next_held_grown (by assumption) hgr hrow_.out | exact next_held_call (by assumption) hb1 | exact next_held_drew (by assumption) | exact next_held_start _ _ _ _ _ | exact next_held_drew (next_held_start _ _ _ _ _) | go_keep)
    (first | (go_at_call 51; (with_reducible refine (impl_Poset_all.calls _ _ l0_0 t _ (Kd.C_below HR.out (by go_split_ands; assumption)) HC.out HALL.out).mono ?_); rintro e w1 ⟨rfl, hb1⟩)
           | (go_at_call 53; (with_reducible refine (impl_items.calls k _ l _ HIT.out).mono ?_); rintro e w1 ⟨v, rfl, ho, hb1⟩; have hlt_ := Aside0.mk (next_held_lt (a := ⟨w.heap.size, 0, none⟩) (b := ⟨w.heap.size + 1, 0, none⟩) (w := w) (by assumption) hb1); have HO := Aside0.mk ho; clear ho)
           | (go_at_call 89; (with_reducible refine (next_any w.heap.size (w.heap.size + 1) v l A0_0 c0_0 l0_0 a1 _ ?_ ?r1 HIN.out ?p1 ?s1 ?c1 ?n1 ?n2 ?n3).mono ?_); (case r1 => (with_reducible repeat (first | apply Kd.R_drew | apply Kd.R_drewN)); exact HO.out); (case p1 => go_split_ands; assumption); (case s1 => go_split_ands; assumption); (case c1 => exact Kd.C_below HR.out (by go_split_ands; assumption)); (case n1 => have := hlt_.out.1; show w.heap.size < _; exact Nat.lt_of_succ_lt this); (case n2 => exact hlt_.out.1); (case n3 => intro ad e_; have := HL.out ad e_; have := hlt_.out.2; omega); rintro e w2 ⟨v2, rfl, ho2, hgr⟩; have hrow_ := Aside0.mk (next_held_row HO.out hlt_.out.1); have HO2 := Aside0.mk ho2; clear ho2))
  all_goals
    go_wp2
    go_ret
    have HO3 := HO2.out
    rw [HF.out] at HO3
    refine ⟨_, rfl, Kd.R_lower HO3 hlt_.out.2, by go_split_ands; assumption⟩
end Go.Proofs.Ytnihjpnheooeoaa.F
end

section
namespace Go.Proofs.Ytnihjpnheooeoaa.Q
open Go.RowKit Go.Proofs.YtnihjpnheooeoaaW.PrintWords Go.Proofs.Ytnihjpnheooeoaa.F
set_option linter.unusedVariables false
theorem nextDel_eq {p : List Int} (hp : PO p) {s e : Nat} (hs : s < 2 ^ p.length) (he : e < p.length) : nextDel p (s : Int) (e : Int) = !subB (L p e) s := by
  have hn := hp.small
  unfold nextDel subB
  rw [rdN, hp.val e he, bits_andNotN (lt_pow (L_lt hp he) (by omega)) (lt_pow hs (by omega))]
  rw [Bool.eq_iff_iff, bne_iff_ne, Bool.not_eq_true', beq_eq_false_iff_ne]
  constructor
  · intro h h2; exact h (by rw [h2]; rfl)
  · intro h h2; exact h (by exact_mod_cast h2)
theorem filter_ints (l : List Nat) (f : Int → Bool) (g : Nat → Bool) (h : ∀ e ∈ l, f (e : Int) = g e) : (ints l).filter f = ints (l.filter g) := by
  induction l with
  | nil => rfl
  | cons x l ih =>
    have h1 := h x List.mem_cons_self
    have h2 := ih (fun e he => h e (List.mem_cons_of_mem _ he))
    have e1 : ints (x :: l) = (x : Int) :: ints l := rfl
    rw [e1, List.filter_cons, List.filter_cons, h1, h2]
    split <;> rfl
theorem next_ev {p : List Int} (hp : PO p) {s : Nat} (hs : s < 2 ^ p.length) : Ev (fun k => impl_Poset_next.f k p (s : Int)) (ints (nextN p s)) := by
  have hn := hp.small
  have hal := allN_lt p
  unfold impl_Poset_next.f
  refine Ev.call (all_eq (by omega)) ?_
  rw [bits_andNotN (lt_pow hal (by omega)) (lt_pow hs (by omega))]
  have hit : ndiff (allN p) s < 2 ^ p.length := ndiff_lt hal
  refine Ev.bind (items_ev _ (lt_pow hit (by omega))) ?_
  have hlt : ∀ e ∈ itemsN (ndiff (allN p) s), e < p.length := fun e he => lt_of_bit hit (mem_itemsN.1 he).2
  refine Ev.yes ⟨fun x hx => ?_, hp.pos, ?_⟩ (Ev.ret ?_)
  · obtain ⟨e, he, rfl⟩ := List.mem_map.1 hx
    have := hlt e he
    show 0 ≤ ((e : Nat) : Int) ∧ ((e : Nat) : Int) < _
    omega
  · rw [ints_len]; have := itemsN_len (ndiff (allN p) s); omega
  · rw [nextN_items p hp s]
    refine filter_ints _ _ _ (fun e he => ?_)
    rw [nextDel_eq hp hs (hlt e he), Bool.not_not]
theorem nextN_get {p : List Int} {s i : Nat} (h : i < (nextN p s).length) : (nextN p s).getD i 0 ∈ nextN p s := by
  rw [List.getD_eq_getElem?_getD, List.getElem?_eq_getElem h]; exact List.getElem_mem h
end Go.Proofs.Ytnihjpnheooeoaa.Q
end

section
namespace Go.Proofs.Ytnihjpnheooeoaa.Q
open Go.RowKit Go.Proofs.YtnihjpnheooeoaaW.PrintWords Go.Proofs.Ytnihjpnheooeoaa.F
set_option linter.unusedVariables false
theorem idealB_zero (p : List Int) : idealB p 0 = true := by
  rw [idealB_iff]
  intro i _ h
  rw [Nat.zero_testBit] at h; cases h
theorem Wl_next {p : List Int} (hp : PO p) {s e : Nat} (hs : s < 2 ^ p.length) (hid : idealB p s = true) (he : e ∈ nextN p s) :
    s ||| 2 ^ e < 2 ^ p.length ∧ (Wl p 0).getD (s ||| 2 ^ e) 0 = ((ways p (s ||| 2 ^ e) : Nat) : Int) := by
  obtain ⟨_, h1, _, _⟩ := mem_nextN.1 he
  have h2 : s ||| 2 ^ e < 2 ^ p.length := or_lt hs (pow_lt_pow h1)
  refine ⟨h2, ?_⟩
  rw [Wl_get p 0 h2]
  unfold wayAt
  rw [if_pos (Nat.zero_le _), if_pos (idealB_add hp hid he)]
theorem Cl_at {p : List Int} {t : Nat} (h : t < 2 ^ p.length) : (Cl p 0).getD t 0 = ((ways p t : Nat) : Int) := by
  rw [Cl_get p 0 h]; unfold cntAt; rw [if_pos (Nat.zero_le _)]
/-- Ways are added up, in the machine's numbers. -/
def rkF (p : List Int) (s : Nat) (acc : Int) (l : List Nat) : Int := l.foldl (fun a e => wrap64 (a + ((ways p (s ||| 2 ^ e) : Nat) : Int))) acc
/-- What can come next among the elements from i on, below own. -/
def nextTo (p : List Int) (s own i : Nat) : List Nat := (List.range' i (own - i)).filter fun e => !s.testBit e && subB (L p e) s
theorem nextTo_step {p : List Int} {s own i : Nat} (h : i < own) : nextTo p s own i = if !s.testBit i && subB (L p i) s then i :: nextTo p s own (i + 1) else nextTo p s own (i + 1) := by
  unfold nextTo
  rw [show own - i = (own - (i + 1)) + 1 by omega, List.range'_succ, List.filter_cons]
theorem nextTo_end (p : List Int) (s own : Nat) : nextTo p s own own = [] := by unfold nextTo; simp
theorem nextTo_eq {p : List Int} (hn : p.length ≤ 10) {s own : Nat} (h : own ≤ p.length) : (nextN p s).filter (fun e => decide (e < own)) = nextTo p s own 0 := by
  rw [← nextFrom_zero hn]
  unfold nextFrom nextTo
  rw [Nat.sub_zero, Nat.sub_zero, ← List.range_eq_range', ← List.range_eq_range', List.filter_filter]
  have e0 : own + (p.length - own) = p.length := by omega
  have e : List.range p.length = List.range own ++ (List.range (p.length - own)).map (own + ·) := by rw [← List.range_add, e0]
  rw [e, List.filter_append]
  have e2 : ((List.range (p.length - own)).map (own + ·)).filter (fun e => decide (e < own) && (!s.testBit e && subB (L p e) s)) = [] := by
    rw [List.filter_eq_nil_iff]
    intro x hx
    obtain ⟨y, _, rfl⟩ := List.mem_map.1 hx
    rw [decide_eq_false (by omega)]; simp
  rw [e2, List.append_nil]
  apply List.filter_congr
  intro x hx
  rw [List.mem_range] at hx
  rw [decide_eq_true hx]; rfl
/-- The first of some elements at which so many orders are reached, and what is left of the number. -/
def pick (p : List Int) (s : Nat) : List Nat → Nat → Nat × Nat
  | [], r => (0, r)
  | e :: l, r => if r < ways p (s ||| 2 ^ e) then (e, r) else pick p s l (r - ways p (s ||| 2 ^ e))
theorem pick_ok {p : List Int} {s : Nat} : ∀ (l : List Nat) (r : Nat), r < sumL (l.map fun e => ways p (s ||| 2 ^ e)) → (pick p s l r).1 ∈ l ∧ (pick p s l r).2 < ways p (s ||| 2 ^ (pick p s l r).1) := by
  intro l
  induction l with
  | nil => intro r h; simp [sumL] at h
  | cons e l ih =>
    intro r h
    simp only [List.map_cons, sumL] at h
    unfold pick
    split
    · rename_i h1; exact ⟨List.mem_cons_self, h1⟩
    · obtain ⟨h1, h2⟩ := ih (r - ways p (s ||| 2 ^ e)) (by omega)
      exact ⟨List.mem_cons_of_mem _ h1, h2⟩
/-- The order with a rank, from a set on. -/
def linW (p : List Int) : Nat → Nat → Nat → List Nat
  | 0, _, _ => []
  | d + 1, s, r => (pick p s (nextN p s) r).1 :: linW p d (s ||| 2 ^ (pick p s (nextN p s) r).1) (pick p s (nextN p s) r).2
theorem linW_len (p : List Int) : ∀ d s r, (linW p d s r).length = d := by
  intro d
  induction d with
  | zero => intro s r; rfl
  | succ d ih => intro s r; simp only [linW, List.length_cons, ih]
end Go.Proofs.Ytnihjpnheooeoaa.Q
end

section
namespace Go.Proofs.Ytnihjpnheooeoaa.Q
open Go.RowKit Go.Proofs.YtnihjpnheooeoaaW.PrintWords Go.Proofs.Ytnihjpnheooeoaa.F
set_option linter.unusedVariables false
theorem with_spec_in {p : List Int} (hp : PO p) {s : Nat} (hs : s < 2 ^ p.length) (acc R : List Int) (ha : acc.length ≤ 10) : ∀ i, i ≤ p.length → ∀ r : Nat, r < sumL ((nextFrom p s i).map fun e => ways p (s ||| 2 ^ e)) →
    Ev (fun k => spec_liWith.l0 k (Cl p 0) (((pick p s (nextFrom p s i) r).2 : Nat) : Int) (acc ++ [(((pick p s (nextFrom p s i) r).1 : Nat) : Int)]) ((s ||| 2 ^ (pick p s (nextFrom p s i) r).1 : Nat) : Int) p) R →
    Ev (fun k => spec_liWith.l1 k (Cl p 0) (r : Int) acc (s : Int) p (p.length : Int) (i : Int) p) R := by
  have hn := hp.small
  refine downTo _ ?_ ?_
  · intro r hr _
    rw [nextFrom_end] at hr
    simp [sumL] at hr
  · intro i hi ih r hr h
    rw [nextFrom_step hi] at hr h
    refine Ev.step (by intro k; simp only [spec_liWith.l1]; rfl) (Ev.yes (by omega) (Ev.yes (by omega) (Ev.yes (by omega) (Ev.call (poIn_eq (by omega)) ?_))))
    have skip : Ev (fun k => spec_liWith.l1 k (Cl p 0) (r : Int) acc (s : Int) p (p.length : Int) ((i + 1 : Nat) : Int) p) R → Ev (fun k => spec_liWith.j2 k (Cl p 0) (r : Int) acc (s : Int) (i : Int) p (p.length : Int) (i : Int) true p) R := fun g => by
      refine Ev.step (by intro k; simp only [spec_liWith.j2]; rfl) (Ev.yes (show true = true from rfl) ?_)
      rw [wid1 (i := i) (n := p.length) hi (by omega)]; exact g
    cases hb : s.testBit i with
    | true =>
      rw [hb] at hr h
      exact Ev.yes rfl (skip (ih r (by simpa using hr) (by simpa using h)))
    | false =>
      rw [hb] at hr h
      refine Ev.no (by simp) ?_
      rw [rdN, hp.val i hi, bits_andNotN (lt_pow (L_lt hp hi) (by omega)) (lt_pow hs (by omega))]
      cases hc : subB (L p i) s with
      | false =>
        rw [hc] at hr h
        have e : ((((ndiff (L p i) s : Nat) : Int) != 0)) = true := by
          rw [bne_iff_ne]
          intro h5
          have h4 : ndiff (L p i) s = 0 := by exact_mod_cast h5
          unfold subB at hc; rw [h4] at hc; simp at hc
        rw [e]
        exact skip (ih r (by simpa using hr) (by simpa using h))
      | true =>
        rw [hc] at hr h
        have h4 : ndiff (L p i) s = 0 := by unfold subB at hc; exact beq_iff_eq.1 hc
        have e : ((((ndiff (L p i) s : Nat) : Int) != 0)) = false := by rw [h4]; rfl
        rw [e]
        have hsi : s ||| 2 ^ i < 2 ^ p.length := or_lt hs (pow_lt_pow hi)
        have hw := ways_le hn (s ||| 2 ^ i)
        refine Ev.step (by intro k; simp only [spec_liWith.j2]; rfl) (Ev.no (by simp) (Ev.yes (by omega) ?_))
        rw [shlN (by omega), bits_orN (lt_pow hs (by omega)) (Nat.pow_lt_pow_right (by decide) (by omega))]
        refine Ev.yes (by omega) (Ev.yes (by rw [Cl_len]; omega) ?_)
        rw [rdN, Cl_at hsi]
        simp only [Bool.not_false, Bool.true_and, if_true, List.map_cons, sumL, pick] at hr h
        by_cases hlt : r < ways p (s ||| 2 ^ i)
        · rw [if_pos hlt] at h
          exact Ev.yes (by omega) (Ev.yes (by omega) h)
        · rw [if_neg hlt] at h
          refine Ev.no (by omega) ?_
          rw [wid1 (i := i) (n := p.length) hi (by omega)]
          have hr2 : r ≤ r := Nat.le_refl _
          have hsum : r - ways p (s ||| 2 ^ i) < sumL ((nextFrom p s (i + 1)).map fun e => ways p (s ||| 2 ^ e)) := by omega
          have ew : wrap64 ((r : Int) - ((ways p (s ||| 2 ^ i) : Nat) : Int)) = ((r - ways p (s ||| 2 ^ i) : Nat) : Int) := by
            have hb2 : sumL ((nextFrom p s (i + 1)).map fun e => ways p (s ||| 2 ^ e)) ≤ 10 * 10000000000 := sumL_le _ _ _ (fun x hx => by obtain ⟨e, _, rfl⟩ := List.mem_map.1 hx; exact ways_le hn _) (by
              rw [List.length_map]; unfold nextFrom
              exact Nat.le_trans (List.length_filter_le _ _) (by rw [List.length_range']; omega))
            rw [wid (by omega) (by omega)]; omega
          rw [ew]
          exact ih _ hsum h
theorem liWith_run {p : List Int} (hp : PO p) : ∀ (d s r : Nat) (acc : List Int), s < 2 ^ p.length → pcard p.length s = acc.length → acc.length + d = p.length → r < ways p s →
    Ev (fun k => spec_liWith.l0 k (Cl p 0) (r : Int) acc (s : Int) p) (acc ++ ints (linW p d s r)) := by
  have hn := hp.small
  intro d
  induction d with
  | zero =>
    intro s r acc hs hc hd hr
    refine Ev.step (by intro k; simp only [spec_liWith.l0]; rfl) (Ev.no (by omega) (Ev.ret ?_))
    simp [linW, ints]
  | succ d ih =>
    intro s r acc hs hc hd hr
    have hall : s ≠ allN p := by
      intro e
      rw [e, pcard_all] at hc; omega
    have hst := ways_step hs hall
    rw [← nextFrom_zero hn] at hst
    have hr' : r < sumL ((nextFrom p s 0).map fun e => ways p (s ||| 2 ^ e)) := by omega
    obtain ⟨h1, h2⟩ := pick_ok _ r hr'
    have h1' : (pick p s (nextFrom p s 0) r).1 ∈ nextN p s := by rw [← nextFrom_zero hn]; exact h1
    obtain ⟨_, m1, m2, m3⟩ := mem_nextN.1 h1'
    refine Ev.step (by intro k; simp only [spec_liWith.l0]; rfl) (Ev.yes (by omega) ?_)
    refine with_spec_in hp hs acc _ (by omega) 0 (Nat.zero_le _) r hr' ?_
    have := ih (s ||| 2 ^ (pick p s (nextFrom p s 0) r).1) (pick p s (nextFrom p s 0) r).2 (acc ++ [(((pick p s (nextFrom p s 0) r).1 : Nat) : Int)]) (or_lt hs (pow_lt_pow m1)) (by rw [pcard_add m1 m2, hc, List.length_append, List.length_singleton]) (by rw [List.length_append, List.length_singleton]; omega) h2
    refine evc this ?_
    rw [List.append_assoc, nextFrom_zero hn]
    rfl
theorem liWith_ev {p : List Int} (hp : PO p) {r : Nat} (hr : r < ways p 0) : Ev (fun k => spec_liWith.f k p (Cl p 0) (r : Int)) (ints (linW p p.length 0 r)) := by
  unfold spec_liWith.f
  have := liWith_run hp p.length 0 r [] (Nat.two_pow_pos _) (by rw [pcard_zero]; rfl) (by simp) hr
  rw [List.nil_append] at this
  exact this
end Go.Proofs.Ytnihjpnheooeoaa.Q
end

section
namespace Go.Proofs.Ytnihjpnheooeoaa.F
open Go.RowKit Go.Proofs.YtnihjpnheooeoaaW.PrintWords Go.Proofs.YtnihjpnheooeoaaW.PrintLast Go.Proofs.YtnihjpnheooeoaaW.PrintMore
set_option linter.unusedVariables false
set_option linter.unusedSimpArgs false
/-- The four captured variables: the poset, the list of orders, the order under way, the function itself. -/
structure FewA where
  gp : Nat
  go : Nat
  gw : Nat
  gf : Nat
  A0 : Option Addr
  c0 : Nat
  p : List Int
  w : World
def FewA.caps (S : FewA) : Array Value := #[.pointer (some ⟨S.gp, 0, none⟩), .pointer (some ⟨S.go, 0, none⟩), .pointer (some ⟨S.gw, 0, none⟩), .pointer (some ⟨S.gf, 0, none⟩)]
structure FewA.Ok (S : FewA) : Prop where
  C : Kd.C (Kd.int .i64) S.w S.A0 S.p.length S.p
  le : S.p.length ≤ S.c0
  bp : S.w.heap.size ≤ S.gp
  bo : S.w.heap.size ≤ S.go
  bw : S.w.heap.size ≤ S.gw
  bf : S.w.heap.size ≤ S.gf
  po : S.gp ≠ S.go
  pw : S.gp ≠ S.gw
  pf : S.gp ≠ S.gf
  ow : S.go ≠ S.gw
  of_ : S.go ≠ S.gf
  wf : S.gw ≠ S.gf
def FewA.ok (S : FewA) (av : Nat → Prop) (k : Nat) : Prop := k ≠ S.gp ∧ k ≠ S.go ∧ k ≠ S.gw ∧ k ≠ S.gf ∧ ¬ av k
/-- What holds between the calls. -/
structure FewI (S : FewA) (av : Nat → Prop) (vo vw : Value) (o : List (List Int)) (wl : List Int) (W : World) : Prop where
  below : Below S.w.heap.size S.w W
  cp : W.heap[S.gp]? = some (.cells #[.slice S.A0 S.p.length S.c0] 34 (0, 0))
  co : W.heap[S.go]? = some (.cells #[vo] 46 (0, 0))
  cw : W.heap[S.gw]? = some (.cells #[vw] 25 (0, 0))
  cf : W.heap[S.gf]? = some (.cells #[.func (.func 78) #[] S.caps] 84 (0, 0))
  HO : Kd.S (Kd.slice 3 (Kd.int .i64)) 25 W S.w.heap.size (fun k => S.ok av k ∧ some k ≠ vw.ownBlock) vo o
  HW : Kd.R (Kd.int .i64) 3 W S.w.heap.size (S.ok av) vw wl
  avlt : ∀ k, av k → k < W.heap.size
  nav : ¬ av S.gp ∧ ¬ av S.go ∧ ¬ av S.gw ∧ ¬ av S.gf
theorem FewI.step {S : FewA} {av : Nat → Prop} {vo vw : Value} {o : List (List Int)} {wl : List Int} {W W1 : World} (h : FewI S av vo vw o wl W) (hb : Below W.heap.size W W1) : FewI S av vo vw o wl W1 :=
  ⟨below_step h.below hb, blk_below h.cp hb, blk_below h.co hb, blk_below h.cw hb, blk_below h.cf hb, Kd.S_below h.HO hb, Kd.R_below h.HW hb, fun k hk => Nat.lt_of_lt_of_le (h.avlt k hk) hb.size, h.nav⟩
theorem FewI.far {S : FewA} (hS : S.Ok) {av : Nat → Prop} {vo vw : Value} {o : List (List Int)} {wl : List Int} {W : World} (h : FewI S av vo vw o wl W) {k : Nat} (hk : W.heap.size ≤ k) : S.ok av k :=
  ⟨by have := blk_lt h.cp; omega, by have := blk_lt h.co; omega, by have := blk_lt h.cw; omega, by have := blk_lt h.cf; omega, fun ha => by have := h.avlt k ha; omega⟩
def FewKeep (av : Nat → Prop) (W W' : World) : Prop := W.heap.size ≤ W'.heap.size ∧ ∀ k, av k → W'.heap[k]? = W.heap[k]?
theorem FewKeep.refl (av : Nat → Prop) (W : World) : FewKeep av W W := ⟨Nat.le_refl _, fun _ _ => rfl⟩
theorem FewKeep.trans {av : Nat → Prop} {W1 W2 W3 : World} (h : FewKeep av W1 W2) (h' : FewKeep av W2 W3) : FewKeep av W1 W3 := ⟨Nat.le_trans h.1 h'.1, fun k hk => (h'.2 k hk).trans (h.2 k hk)⟩
theorem FewKeep.of_below {av : Nat → Prop} {W W1 : World} (hlt : ∀ k, av k → k < W.heap.size) (hb : Below W.heap.size W W1) : FewKeep av W W1 := ⟨hb.size, fun k hk => hb.block k (hlt k hk)⟩
theorem few_size (w : World) (a : Addr) (v : Value) : (w.setCell a v).heap.size = w.heap.size := by
  rcases a with ⟨b, o, sp⟩
  simp [World.setCell]
/-- A new list of orders is stored. -/
theorem FewI.put_out {S : FewA} (hS : S.Ok) {av : Nat → Prop} {vo vw v1 : Value} {o o' : List (List Int)} {wl : List Int} {W w1 : World} (h : FewI S av vo vw o wl W)
    (hs : Kd.S (Kd.slice 3 (Kd.int .i64)) 25 w1 S.w.heap.size (fun k => S.ok av k ∧ some k ≠ vw.ownBlock) v1 o') (hb : Below S.w.heap.size S.w w1) (hg : W.grownBy w1 vo.ownBlock) :
    FewI S av v1 vw o' wl (w1.setCell ⟨S.go, 0, none⟩ v1) ∧ FewKeep av W (w1.setCell ⟨S.go, 0, none⟩ v1) := by
  have hvo : ∀ k, vo.ownBlock = some k → S.ok av k ∧ some k ≠ vw.ownBlock := (Kd.S_R h.HO).1
  have hne : ∀ k, ¬ S.ok av k → some k ≠ vo.ownBlock := fun k hk e => hk (hvo k e.symm).1
  have hgo : S.w.heap.size ≤ S.go := hS.bo
  have g1 := blk_grown h.cp hg (hne _ (fun h => h.1 rfl))
  have g2 := blk_grown h.co hg (hne _ (fun h => h.2.1 rfl))
  have g3 := blk_grown h.cw hg (hne _ (fun h => h.2.2.1 rfl))
  have g4 := blk_grown h.cf hg (hne _ (fun h => h.2.2.2.1 rfl))
  have hs' := Kd.S_far hs (p := ⟨S.go, 0, none⟩) (fun k hk => hk.1.2.1) v1
  have hw0 := Kd.R_step (Kd.R_tight2 rfl h.HW) (w1 := w1) (fun k ho hk => hg.block k hk (fun e => (hvo k e.symm).2 ho.1))
  have hw' := Kd.R_far (Kd.R_mono (ok' := S.ok av) hw0 (fun k hk => hk.2)) (p := ⟨S.go, 0, none⟩) (fun k hk => hk.2.1) v1
  refine ⟨⟨below_set hb hgo, ?_, one_setCell g2, ?_, ?_, hs', hw', fun k hk => ?_, h.nav⟩, ?_, fun k hk => ?_⟩
  · exact (Below.heap_setCell _ _ _ _ hS.po).trans g1
  · exact (Below.heap_setCell _ _ _ _ (Ne.symm hS.ow)).trans g3
  · exact (Below.heap_setCell _ _ _ _ (Ne.symm hS.of_)).trans g4
  · rw [few_size]; exact Nat.lt_of_lt_of_le (h.avlt k hk) hg.size
  · rw [few_size]; exact hg.size
  · have hkg : k ≠ S.go := fun e => h.nav.2.1 (e ▸ hk)
    exact (Below.heap_setCell _ _ _ _ hkg).trans (hg.block k (h.avlt k hk) (hne k (fun h => h.2.2.2.2 hk)))
theorem FewI.go_kept {S : FewA} {av : Nat → Prop} {vo vw : Value} {o : List (List Int)} {wl : List Int} {W w1 : World} (h : FewI S av vo vw o wl W) (hg : W.grownBy w1 vo.ownBlock) : w1.heap[S.go]? = some (.cells #[vo] 46 (0, 0)) :=
  blk_grown h.co hg (fun e => ((Kd.S_R h.HO).1 _ e.symm).1.2.1 rfl)
theorem FewI.vw_lt {S : FewA} {av : Nat → Prop} {vo vw : Value} {o : List (List Int)} {wl : List Int} {W : World} (h : FewI S av vo vw o wl W) {k : Nat} (hk : W.heap.size ≤ k) : some k ≠ vw.ownBlock := fun e => by
  have := Kd.R_lt h.HW k e.symm; omega
theorem few_new {S : FewA} (hS : S.Ok) {av : Nat → Prop} {vo vw v2 : Value} {o : List (List Int)} {wl l2 : List Int} {W W2 : World} (h : FewI S av vo vw o wl W) (hr : Kd.R (Kd.int .i64) 3 W2 W.heap.size (fun _ => True) v2 l2) :
    ∀ k, some k = v2.ownBlock → (S.ok av k ∧ some k ≠ vw.ownBlock) ∧ some k ≠ vo.ownBlock := fun k hk => by
  have hb := Kd.R_base hr k hk.symm
  refine ⟨⟨h.far hS hb, h.vw_lt hb⟩, fun e => ?_⟩
  have := Kd.S_lt h.HO k e.symm; omega
theorem few_old {S : FewA} {av : Nat → Prop} {vo vw v2 : Value} {o : List (List Int)} {wl l2 : List Int} {W W2 : World} (h : FewI S av vo vw o wl W) (hb : Below W.heap.size W W2) (hr : Kd.R (Kd.int .i64) 3 W2 W.heap.size (fun _ => True) v2 l2) :
    Kd.S (Kd.slice 3 (Kd.int .i64)) 25 W2 S.w.heap.size (fun k => (S.ok av k ∧ some k ≠ vw.ownBlock) ∧ ¬ some k = v2.ownBlock) vo o := by
  refine Kd.S_below (Kd.S_mono (Kd.S_bound h.HO) (fun k hk => ⟨hk.1, fun e => ?_⟩)) hb
  have h1 := Kd.R_base hr k e.symm
  have h2 := hk.2.2.1
  omega
/-- A new order under way is stored. -/
theorem FewI.put_w {S : FewA} (hS : S.Ok) {av : Nat → Prop} {vo vw v1 : Value} {o : List (List Int)} {wl wl' : List Int} {W w1 : World} (h : FewI S av vo vw o wl W)
    (hr : Kd.R (Kd.int .i64) 3 w1 S.w.heap.size (S.ok av) v1 wl') (hb : Below S.w.heap.size S.w w1) (hg : W.grownBy w1 vw.ownBlock) (hat : v1.ownBlock = vw.ownBlock ∨ ∃ b, v1.ownBlock = some b ∧ W.heap.size ≤ b) :
    FewI S av vo v1 o wl' (w1.setCell ⟨S.gw, 0, none⟩ v1) ∧ FewKeep av W (w1.setCell ⟨S.gw, 0, none⟩ v1) := by
  have hvw : ∀ k, vw.ownBlock = some k → S.ok av k := h.HW.1
  have hne : ∀ k, ¬ S.ok av k → some k ≠ vw.ownBlock := fun k hk e => hk (hvw k e.symm)
  have hgw : S.w.heap.size ≤ S.gw := hS.bw
  have g1 := blk_grown h.cp hg (hne _ (fun h => h.1 rfl))
  have g2 := blk_grown h.co hg (hne _ (fun h => h.2.1 rfl))
  have g3 := blk_grown h.cw hg (hne _ (fun h => h.2.2.1 rfl))
  have g4 := blk_grown h.cf hg (hne _ (fun h => h.2.2.2.1 rfl))
  have hs' := Kd.S_far (Kd.S_after h.HO hg hat) (p := ⟨S.gw, 0, none⟩) (fun k hk => hk.1.2.2.1) v1
  have hw' := Kd.R_far hr (p := ⟨S.gw, 0, none⟩) (fun k hk => hk.2.2.1) v1
  refine ⟨⟨below_set hb hgw, ?_, ?_, one_setCell g3, ?_, hs', hw', fun k hk => ?_, h.nav⟩, ?_, fun k hk => ?_⟩
  · exact (Below.heap_setCell _ _ _ _ hS.pw).trans g1
  · exact (Below.heap_setCell _ _ _ _ hS.ow).trans g2
  · exact (Below.heap_setCell _ _ _ _ (Ne.symm hS.wf)).trans g4
  · rw [few_size]; exact Nat.lt_of_lt_of_le (h.avlt k hk) hg.size
  · rw [few_size]; exact hg.size
  · have hkg : k ≠ S.gw := fun e => h.nav.2.2.1 (e ▸ hk)
    exact (Below.heap_setCell _ _ _ _ hkg).trans (hg.block k (h.avlt k hk) (hne k (fun h => h.2.2.2.2 hk)))
theorem FewI.gw_kept {S : FewA} {av : Nat → Prop} {vo vw : Value} {o : List (List Int)} {wl : List Int} {W w1 : World} (h : FewI S av vo vw o wl W) (hg : W.grownBy w1 vw.ownBlock) : w1.heap[S.gw]? = some (.cells #[vw] 25 (0, 0)) :=
  blk_grown h.cw hg (fun e => (h.HW.1 _ e.symm).2.2.1 rfl)
theorem FewI.gf_kept {S : FewA} {av : Nat → Prop} {vo vw : Value} {o : List (List Int)} {wl : List Int} {W w1 : World} (h : FewI S av vo vw o wl W) (hg : W.grownBy w1 vw.ownBlock) : w1.heap[S.gf]? = some (.cells #[.func (.func 78) #[] S.caps] 84 (0, 0)) :=
  blk_grown h.cf hg (fun e => (h.HW.1 _ e.symm).2.2.2.1 rfl)
def fewAv (av : Nat → Prop) (v : Value) (k : Nat) : Prop := av k ∨ some k = v.ownBlock
/-- A fresh row is to be left alone too. -/
theorem FewI.with_row {S : FewA} {av : Nat → Prop} {vo vw vl : Value} {o : List (List Int)} {wl l : List Int} {W W2 : World} (h : FewI S av vo vw o wl W) (hb : Below W.heap.size W W2) (hr : Kd.R (Kd.int .i64) 3 W2 W.heap.size (fun _ => True) vl l) : FewI S (fewAv av vl) vo vw o wl W2 := by
  have h2 := h.step hb
  have hv : ∀ k, some k = vl.ownBlock → W.heap.size ≤ k := fun k e => Kd.R_base hr k e.symm
  refine ⟨h2.below, h2.cp, h2.co, h2.cw, h2.cf, ?_, ?_, ?_, ?_⟩
  · refine Kd.S_below (Kd.S_mono (Kd.S_bound h.HO) (fun k hk => ⟨⟨hk.1.1.1, hk.1.1.2.1, hk.1.1.2.2.1, hk.1.1.2.2.2.1, fun hx => ?_⟩, hk.1.2⟩)) hb
    rcases hx with hx | hx
    · exact hk.1.1.2.2.2.2 hx
    · have := hv k hx; have := hk.2.2.1; omega
  · refine Kd.R_below (Kd.R_mono (Kd.R_bound h.HW) (fun k hk => ⟨hk.1.1, hk.1.2.1, hk.1.2.2.1, hk.1.2.2.2.1, fun hx => ?_⟩)) hb
    rcases hx with hx | hx
    · exact hk.1.2.2.2.2 hx
    · have := hv k hx; have := hk.2.2.1; omega
  · intro k hk
    rcases hk with hk | hk
    · exact h2.avlt k hk
    · exact Kd.R_lt hr k hk.symm
  · have l1 := blk_lt h.cp
    have l2 := blk_lt h.co
    have l3 := blk_lt h.cw
    have l4 := blk_lt h.cf
    refine ⟨?_, ?_, ?_, ?_⟩ <;> rintro (hx | hx)
    · exact h.nav.1 hx
    · have := hv _ hx; omega
    · exact h.nav.2.1 hx
    · have := hv _ hx; omega
    · exact h.nav.2.2.1 hx
    · have := hv _ hx; omega
    · exact h.nav.2.2.2 hx
    · have := hv _ hx; omega
/-- .. and forgotten. -/
theorem FewI.forget {S : FewA} {av : Nat → Prop} {vo vw vl : Value} {o : List (List Int)} {wl : List Int} {W : World} (h : FewI S (fewAv av vl) vo vw o wl W) : FewI S av vo vw o wl W :=
  ⟨h.below, h.cp, h.co, h.cw, h.cf, Kd.S_mono h.HO (fun k hk => ⟨⟨hk.1.1, hk.1.2.1, hk.1.2.2.1, hk.1.2.2.2.1, fun hx => hk.1.2.2.2.2 (.inl hx)⟩, hk.2⟩), Kd.R_mono h.HW (fun k hk => ⟨hk.1, hk.2.1, hk.2.2.1, hk.2.2.2.1, fun hx => hk.2.2.2.2 (.inl hx)⟩), fun k hk => h.avlt k (.inl hk), fun hx => h.nav.1 (.inl hx), fun hx => h.nav.2.1 (.inl hx), fun hx => h.nav.2.2.1 (.inl hx), fun hx => h.nav.2.2.2 (.inl hx)⟩
theorem FewKeep.forget {av : Nat → Prop} {vl : Value} {W W1 : World} (h : FewKeep (fewAv av vl) W W1) : FewKeep av W W1 := ⟨h.1, fun k hk => h.2 k (.inl hk)⟩
theorem few_cell {av : Nat → Prop} {l : List Int} {W W1 : World} {b g c : Nat} (hr : Kd.R (Kd.int .i64) 3 W b (fun _ => True) (.slice (some ⟨g, 0, none⟩) l.length c) l) (hk : FewKeep (fewAv av (.slice (some ⟨g, 0, none⟩) l.length c)) W W1) (i : Nat) (hi : i < l.length) :
    W1.cell? ⟨g, i, none⟩ = some (.int .i64 (rd l (i : Int))) := by
  have h1 := Kd.R_move (Kd.R_tight rfl hr) (w1 := W1) (fun k hk' => hk.2 k (.inr hk'))
  have h2 := (Kd.R_cell (0 : Int) h1 (i : Int) (by omega) (by omega)).1
  rwa [Int.toNat_natCast] at h2
theorem few_rd {l : List Int} {i : Nat} {e : Int} {m : List Int} (h : l.drop i = e :: m) : i < l.length ∧ rd l (i : Int) = e ∧ l.drop (i + 1) = m := by
  have hi : i < l.length := by
    rcases Nat.lt_or_ge i l.length with h' | h'
    · exact h'
    · rw [List.drop_eq_nil_of_le h'] at h; cases h
  rw [List.drop_eq_getElem_cons hi] at h
  injection h with h1 h2
  refine ⟨hi, ?_, h2⟩
  unfold rd
  rw [Int.toNat_natCast, ← h1]
  simp [hi]
def few_row (g : Int → List Int → Option (List (List Int))) (s : Int) (w : List Int) : List Int → Option (List (List Int))
  | [] => some []
  | e :: l => if 0 ≤ e ∧ w.length ≤ 1000 then (g (Go.bits .or .i64 s (shl .i64 1 e)) (w ++ [e])).bind fun o => (few_row g s w l).bind fun o' => some (o ++ o') else none
def few_put (F : Nat) (p : List Int) : Nat → Int → List Int → Option (List (List Int))
  | 0, _, _ => none
  | d + 1, s, w => (impl_Poset_all.f p).bind fun t => if s = t then (if w.length ≤ 1000 then some [w] else none) else (impl_Poset_next.f F p s).bind fun l => if l.length ≤ 1000 then few_row (few_put F p d) s w l else none
theorem few_shl (e : Int) : shl .i64 1 e = IntKind.i64.wrap (2 ^ min e.toNat 64) := by
  unfold shl
  rw [Int.one_mul]
  rfl
theorem few_w64 (n : Nat) (h : n ≤ 1001) : wrap64 (n : Int) = (n : Int) := by
  unfold wrap64
  omega
theorem few_empty {X : World} {base n e sz : Nat} (hn : base ≤ n) (hx : X.heap[n]? = some (.cells #[] e (0, 0))) : X.ownsRow base e sz (.slice (some ⟨n, 0, none⟩) 0 0) 0 [] :=
  ⟨by simp, .inr ⟨n, 0, #[], rfl, hn, hx, by omega, by omega, by simp, by simp⟩⟩
theorem few_emptyR {α : Type} (d : Kd α) {X : World} {base n e : Nat} {ok : Nat → Prop} (hn : base ≤ n) (hx : X.heap[n]? = some (.cells #[] e (0, 0))) (hok : ok n) : d.R e X base ok (.slice (some ⟨n, 0, none⟩) 0 0) ([] : List α) :=
  ⟨fun k hk => by
    have : n = k := by simpa [Value.ownBlock] using hk
    exact this ▸ hok, [], few_empty hn hx, Reps.none _ _⟩
/-- The world in which the function is made. -/
def fewWorld (w2 : World) (c : Array Value) : World :=
  ((((w2.alloc (.cells #[] 25)).alloc (.cells #[] 3)).alloc (.cells #[.slice (some ⟨w2.heap.size, 0, none⟩) 0 0] 46)).alloc (.cells #[.slice (some ⟨w2.heap.size + 1, 0, none⟩) 0 0] 25)).alloc (.cells #[.func (.func 78) #[] c] 84)
theorem few_start {w w2 : World} {A : Option Addr} {c : Nat} {p : List Int} (hC : Kd.C (Kd.int .i64) w A p.length p) (hle : p.length ≤ c) (hb : Below w.heap.size w w2) (hp : w2.heap[w.heap.size]? = some (.cells #[.slice A p.length c] 34 (0, 0))) :
    ∃ S : FewA, S.Ok ∧ S.p = p ∧ S.w = w ∧ S.gp = w.heap.size ∧ S.go = w2.heap.size + 1 + 1 ∧ S.gw = w2.heap.size + 1 + 1 + 1 ∧ S.gf = w2.heap.size + 1 + 1 + 1 + 1 ∧
      FewI S (fun _ => False) (.slice (some ⟨w2.heap.size, 0, none⟩) 0 0) (.slice (some ⟨w2.heap.size + 1, 0, none⟩) 0 0) [] [] (fewWorld w2 S.caps) := by
  have hlt := blk_lt hp
  have hsz := hb.size
  refine ⟨⟨w.heap.size, w2.heap.size + 1 + 1, w2.heap.size + 1 + 1 + 1, w2.heap.size + 1 + 1 + 1 + 1, A, c, p, w⟩, ⟨hC, hle, Nat.le_refl _, by simp; omega, by simp; omega, by simp; omega, by simp; omega, by simp; omega, by simp; omega, by simp, by simp, by simp⟩, rfl, rfl, rfl, rfl, rfl, rfl, ?_⟩
  unfold FewA.caps fewWorld
  have k1 : ∀ a : Obj, (w2.alloc a).heap[w2.heap.size]? = some a := fun a => blk_new w2 a
  have k2 : ∀ a b : Obj, ((w2.alloc a).alloc b).heap[w2.heap.size + 1]? = some b := fun a b => by simpa using blk_new (w2.alloc a) b
  have k3 : ∀ a b c : Obj, (((w2.alloc a).alloc b).alloc c).heap[w2.heap.size + 1 + 1]? = some c := fun a b c => by simpa using blk_new ((w2.alloc a).alloc b) c
  have k4 : ∀ a b c d : Obj, ((((w2.alloc a).alloc b).alloc c).alloc d).heap[w2.heap.size + 1 + 1 + 1]? = some d := fun a b c d => by simpa using blk_new (((w2.alloc a).alloc b).alloc c) d
  have k5 : ∀ a b c d e : Obj, (((((w2.alloc a).alloc b).alloc c).alloc d).alloc e).heap[w2.heap.size + 1 + 1 + 1 + 1]? = some e := fun a b c d e => by simpa using blk_new ((((w2.alloc a).alloc b).alloc c).alloc d) e
  refine ⟨?_, ?_, ?_, ?_, ?_, ?_, ?_, fun k hk => hk.elim, ⟨id, id, id, id⟩⟩
  · exact below_alloc (below_alloc (below_alloc (below_alloc (below_alloc hb _) _) _) _) _
  · exact (blk_alloc (blk_alloc (blk_alloc (blk_alloc (blk_alloc hp _) _) _) _) _)
  · exact (blk_alloc (blk_alloc (k3 _ _ _) _) _)
  · exact (blk_alloc (k4 _ _ _ _) _)
  · exact k5 _ _ _ _ _
  · refine ⟨fun _ => 0, few_emptyR _ hsz ((blk_alloc (blk_alloc (blk_alloc (blk_alloc (k1 _) _) _) _) _)) ⟨⟨?_, ?_, ?_, ?_, id⟩, ?_⟩⟩
    · show w2.heap.size ≠ w.heap.size; omega
    · show w2.heap.size ≠ w2.heap.size + 1 + 1; omega
    · show w2.heap.size ≠ w2.heap.size + 1 + 1 + 1; omega
    · show w2.heap.size ≠ w2.heap.size + 1 + 1 + 1 + 1; omega
    · intro e
      simp [Value.ownBlock] at e
  · refine few_emptyR _ (Nat.le_succ_of_le hsz) ((blk_alloc (blk_alloc (blk_alloc (k2 _ _) _) _) _)) ⟨?_, ?_, ?_, ?_, id⟩
    · show w2.heap.size + 1 ≠ w.heap.size; omega
    · show w2.heap.size + 1 ≠ w2.heap.size + 1 + 1; omega
    · show w2.heap.size + 1 ≠ w2.heap.size + 1 + 1 + 1; omega
    · show w2.heap.size + 1 ≠ w2.heap.size + 1 + 1 + 1 + 1; omega
set_option maxHeartbeats 8000000 in
set_option maxRecDepth 100000 in
theorem few_all {S : FewA} (hS : S.Ok) {av : Nat → Prop} {vo vw : Value} {o : List (List Int)} {wl : List Int} {W : World} (h : FewI S av vo vw o wl W) (s : Int) (hal : impl_Poset_all.f S.p = some s) (hlen : wl.length ≤ 1000) (hol : (o.length + 1) * 24 ≤ 140737488355328) :
    Calls Try.prog 78 #[.int .i64 s, .pointer (some ⟨S.gp, 0, none⟩), .pointer (some ⟨S.go, 0, none⟩), .pointer (some ⟨S.gw, 0, none⟩), .pointer (some ⟨S.gf, 0, none⟩)] W fun e W' => e = .returned (.tuple #[]) ∧ ∃ vo', FewI S av vo' vw (o ++ [wl]) wl W' ∧ FewKeep av W W' := by
  have hu28 := Try.underlying34
  obtain ⟨Aw, cw, rfl, hlw, hCw⟩ := Kd.R_reads h.HW
  have hcp : W.cell? ⟨S.gp, 0, none⟩ = some (.slice S.A0 S.p.length S.c0) := (blk_cell h.cp 0).trans rfl
  have HALL := Aside0.mk (impl_Poset_all.calls S.A0 S.c0 S.p s W (Kd.C_below hS.C h.below) hS.le hal)
  have hco := blk_cell h.co 0
  have hcw := blk_cell h.cw 0
  have hfo := blk_frozen h.co 0
  have HI := Aside0.mk h
  have HLW := Aside0.mk hlw
  have HCW := Aside0.mk hCw
  have HL := Aside0.mk hlen
  have HOL := Aside0.mk hol
  clear h hlw hCw hlen hol hal
  go_enter Try.func78, Try.ntmps78
  go_wp2_with (go_at_call 51; (with_reducible refine HALL.out.mono ?_); rintro e W1 ⟨rfl, hb1⟩; have HI1 := Aside0.mk (HI.out.step hb1); have hco1 : W1.cell? ⟨S.go, 0, none⟩ = some vo := (blk_cell HI1.out.co 0).trans rfl; have hcw1 : W1.cell? ⟨S.gw, 0, none⟩ = some (.slice Aw wl.length cw) := (blk_cell HI1.out.cw 0).trans rfl;  have HCW1 := Aside0.mk (Kd.C_below HCW.out hb1); have HB1 := Aside0.mk hb1; clear hb1)
  refine wp_region_any (by kernel_rfl) ?_
  change wpAny _ _ _ _ _ _ _ (World.drew _)
  refine wpAny_ready (rs := [0, 1]) (by kernel_rfl) (by simp) ?_
  refine AllReady.cons rfl (fun K hK => ?_) ?_
  · -- 0
    go_simp
    refine hK _ _ ?_
    clear hK K
    refine wpAny_ready (rs := [1]) (by kernel_rfl) (by simp) ?_
    refine AllReady.cons rfl (fun K hK => ?_) ?_
    · -- 1
      go_simp
      refine hK _ _ ?_
      clear hK K
      refine wpAny_ready (rs := [2]) (by kernel_rfl) (by simp) ?_
      refine AllReady.cons rfl (fun K hK => ?_) ?_
      · -- 2
        go_simp
        go_at_call 64
        (with_reducible refine (slices_Clone_int_int.calls Aw cw wl wl _ (by (with_reducible repeat (first | apply Kd.C_drewN | apply Kd.C_drew)); exact HCW1.out) HLW.out (by unfold slices_Clone_int_int.f; rw [if_pos (by have := HL.out; omega)])).mono ?_)
        rintro e W2 ⟨v2, rfl, hr2, hb2⟩
        obtain ⟨A2, c2, rfl⟩ := Kd.R_slice hr2
        have HB2 : Aside0 (Below W1.heap.size W1 W2) := ⟨(below_drew (Below.refl W1.heap.size W1)).trans hb2⟩
        have HR2 : Aside0 (Kd.R (Kd.int .i64) 3 W2 W1.heap.size (fun _ => True) (.slice A2 wl.length c2) wl) := ⟨hr2⟩
        clear hr2 hb2
        have HI2 := Aside0.mk (HI1.out.step HB2.out)
        have hco2 : W2.cell? ⟨S.go, 0, none⟩ = some vo := (blk_cell HI2.out.co 0).trans rfl
        show K _ _
        refine hK _ _ ?_
        clear hK K
        refine wpAny_ready (rs := [3]) (by kernel_rfl) (by simp) ?_
        refine AllReady.cons rfl (fun K hK => ?_) ?_
        · -- 3
          go_simp
          have hco3 : (W2.alloc (.cells #[.slice A2 wl.length c2] 25)).cell? ⟨S.go, 0, none⟩ = some vo := (blk_cell (blk_alloc HI2.out.co _) 0).trans rfl
          refine hK _ _ ?_
          clear hK K
          refine wpAny_ready (rs := [4]) (by kernel_rfl) (by simp) ?_
          refine AllReady.cons rfl (fun K hK => ?_) ?_
          · -- 4
            refine Kd.S_append_step (Kd.slice 3 (Kd.int .i64)) (w0 := S.w) (W := W2) S.w.heap.size (by rfl) (.tmp 12) (.tmp 15) 46 25 (.slice none 0 0) 24 rfl Try.underlying46 info25 rfl (by decide) (by omega) vo o wl [.slice A2 wl.length c2] (fun k => S.ok av k ∧ some k ≠ (Value.slice Aw wl.length cw).ownBlock) (fun k => some k = (Value.slice A2 wl.length c2).ownBlock) rfl rfl ?_ (few_new hS HI1.out HR2.out) (fun k hk => ⟨HI2.out.far hS hk, HI2.out.vw_lt hk⟩) (few_old HI1.out HB2.out HR2.out) HI2.out.below HI2.out.below.size HOL.out ?_
            · exact Kd.M_row (Kd.R_tight rfl (Kd.R_lower HR2.out HI1.out.below.size))
            intro v1 w1 hs1 hb1_ hg1 hat1
            obtain ⟨A1, n1, c1, rfl⟩ : ∃ A n c, v1 = .slice A n c := by obtain ⟨A, c, e⟩ := Kd.S_slice hs1; exact ⟨A, _, c, e⟩
            have HP := Aside0.mk (HI2.out.put_out hS hs1 hb1_ hg1)
            have hco4 : w1.cell? ⟨S.go, 0, none⟩ = some vo := (blk_cell (HI2.out.go_kept hg1) 0).trans rfl
            have hfo4 := blk_frozen (HI2.out.go_kept hg1) 0
            clear hs1 hb1_ hg1 hat1
            show K (Act.put _ (some 16) _) w1
            refine hK _ _ ?_
            clear hK K
            refine wpAny_ready (rs := [5]) (by kernel_rfl) (by simp) ?_
            refine AllReady.cons rfl (fun K hK => ?_) ?_
            · -- 5
              go_simp
              refine hK _ _ ?_
              clear hK K
              refine wpAny_done (by kernel_rfl) ?_ _
              go_wp2
              exact bodyPost_ret (v := .tuple #[]) (by simp [results, Try.results78, go_sem]) rfl ⟨rfl, _, HP.out.1, (FewKeep.of_below HI.out.avlt HB1.out).trans ((FewKeep.of_below HI1.out.avlt HB2.out).trans HP.out.2)⟩
            exact AllReady.nil
          exact AllReady.nil
        exact AllReady.nil
      exact AllReady.nil
    exact AllReady.nil
  refine AllReady.cons rfl (fun K hK => ?_) ?_
  · -- 1
    go_simp
    refine hK _ _ ?_
    clear hK K
    refine wpAny_ready (rs := [0, 2]) (by kernel_rfl) (by simp) ?_
    refine AllReady.cons rfl (fun K hK => ?_) ?_
    · -- 0
      go_simp
      refine hK _ _ ?_
      clear hK K
      refine wpAny_ready (rs := [2]) (by kernel_rfl) (by simp) ?_
      refine AllReady.cons rfl (fun K hK => ?_) ?_
      · -- 2
        go_simp
        go_at_call 64
        (with_reducible refine (slices_Clone_int_int.calls Aw cw wl wl _ (by (with_reducible repeat (first | apply Kd.C_drewN | apply Kd.C_drew)); exact HCW1.out) HLW.out (by unfold slices_Clone_int_int.f; rw [if_pos (by have := HL.out; omega)])).mono ?_)
        rintro e W2 ⟨v2, rfl, hr2, hb2⟩
        obtain ⟨A2, c2, rfl⟩ := Kd.R_slice hr2
        have HB2 : Aside0 (Below W1.heap.size W1 W2) := ⟨(below_drew (Below.refl W1.heap.size W1)).trans hb2⟩
        have HR2 : Aside0 (Kd.R (Kd.int .i64) 3 W2 W1.heap.size (fun _ => True) (.slice A2 wl.length c2) wl) := ⟨hr2⟩
        clear hr2 hb2
        have HI2 := Aside0.mk (HI1.out.step HB2.out)
        have hco2 : W2.cell? ⟨S.go, 0, none⟩ = some vo := (blk_cell HI2.out.co 0).trans rfl
        show K _ _
        refine hK _ _ ?_
        clear hK K
        refine wpAny_ready (rs := [3]) (by kernel_rfl) (by simp) ?_
        refine AllReady.cons rfl (fun K hK => ?_) ?_
        · -- 3
          go_simp
          have hco3 : (W2.alloc (.cells #[.slice A2 wl.length c2] 25)).cell? ⟨S.go, 0, none⟩ = some vo := (blk_cell (blk_alloc HI2.out.co _) 0).trans rfl
          refine hK _ _ ?_
          clear hK K
          refine wpAny_ready (rs := [4]) (by kernel_rfl) (by simp) ?_
          refine AllReady.cons rfl (fun K hK => ?_) ?_
          · -- 4
            refine Kd.S_append_step (Kd.slice 3 (Kd.int .i64)) (w0 := S.w) (W := W2) S.w.heap.size (by rfl) (.tmp 12) (.tmp 15) 46 25 (.slice none 0 0) 24 rfl Try.underlying46 info25 rfl (by decide) (by omega) vo o wl [.slice A2 wl.length c2] (fun k => S.ok av k ∧ some k ≠ (Value.slice Aw wl.length cw).ownBlock) (fun k => some k = (Value.slice A2 wl.length c2).ownBlock) rfl rfl ?_ (few_new hS HI1.out HR2.out) (fun k hk => ⟨HI2.out.far hS hk, HI2.out.vw_lt hk⟩) (few_old HI1.out HB2.out HR2.out) HI2.out.below HI2.out.below.size HOL.out ?_
            · exact Kd.M_row (Kd.R_tight rfl (Kd.R_lower HR2.out HI1.out.below.size))
            intro v1 w1 hs1 hb1_ hg1 hat1
            obtain ⟨A1, n1, c1, rfl⟩ : ∃ A n c, v1 = .slice A n c := by obtain ⟨A, c, e⟩ := Kd.S_slice hs1; exact ⟨A, _, c, e⟩
            have HP := Aside0.mk (HI2.out.put_out hS hs1 hb1_ hg1)
            have hco4 : w1.cell? ⟨S.go, 0, none⟩ = some vo := (blk_cell (HI2.out.go_kept hg1) 0).trans rfl
            have hfo4 := blk_frozen (HI2.out.go_kept hg1) 0
            clear hs1 hb1_ hg1 hat1
            show K (Act.put _ (some 16) _) w1
            refine hK _ _ ?_
            clear hK K
            refine wpAny_ready (rs := [5]) (by kernel_rfl) (by simp) ?_
            refine AllReady.cons rfl (fun K hK => ?_) ?_
            · -- 5
              go_simp
              refine hK _ _ ?_
              clear hK K
              refine wpAny_done (by kernel_rfl) ?_ _
              go_wp2
              exact bodyPost_ret (v := .tuple #[]) (by simp [results, Try.results78, go_sem]) rfl ⟨rfl, _, HP.out.1, (FewKeep.of_below HI.out.avlt HB1.out).trans ((FewKeep.of_below HI1.out.avlt HB2.out).trans HP.out.2)⟩
            exact AllReady.nil
          exact AllReady.nil
        exact AllReady.nil
      exact AllReady.nil
    refine AllReady.cons rfl (fun K hK => ?_) ?_
    · -- 2
      go_simp
      go_at_call 64
      (with_reducible refine (slices_Clone_int_int.calls Aw cw wl wl _ (by (with_reducible repeat (first | apply Kd.C_drewN | apply Kd.C_drew)); exact HCW1.out) HLW.out (by unfold slices_Clone_int_int.f; rw [if_pos (by have := HL.out; omega)])).mono ?_)
      rintro e W2 ⟨v2, rfl, hr2, hb2⟩
      obtain ⟨A2, c2, rfl⟩ := Kd.R_slice hr2
      have HB2 : Aside0 (Below W1.heap.size W1 W2) := ⟨(below_drew (Below.refl W1.heap.size W1)).trans hb2⟩
      have HR2 : Aside0 (Kd.R (Kd.int .i64) 3 W2 W1.heap.size (fun _ => True) (.slice A2 wl.length c2) wl) := ⟨hr2⟩
      clear hr2 hb2
      have HI2 := Aside0.mk (HI1.out.step HB2.out)
      have hco2 : W2.cell? ⟨S.go, 0, none⟩ = some vo := (blk_cell HI2.out.co 0).trans rfl
      show K _ _
      refine hK _ _ ?_
      clear hK K
      refine wpAny_ready (rs := [0, 3]) (by kernel_rfl) (by simp) ?_
      refine AllReady.cons rfl (fun K hK => ?_) ?_
      · -- 0
        go_simp
        refine hK _ _ ?_
        clear hK K
        refine wpAny_ready (rs := [3]) (by kernel_rfl) (by simp) ?_
        refine AllReady.cons rfl (fun K hK => ?_) ?_
        · -- 3
          go_simp
          have hco3 : (W2.alloc (.cells #[.slice A2 wl.length c2] 25)).cell? ⟨S.go, 0, none⟩ = some vo := (blk_cell (blk_alloc HI2.out.co _) 0).trans rfl
          refine hK _ _ ?_
          clear hK K
          refine wpAny_ready (rs := [4]) (by kernel_rfl) (by simp) ?_
          refine AllReady.cons rfl (fun K hK => ?_) ?_
          · -- 4
            refine Kd.S_append_step (Kd.slice 3 (Kd.int .i64)) (w0 := S.w) (W := W2) S.w.heap.size (by rfl) (.tmp 12) (.tmp 15) 46 25 (.slice none 0 0) 24 rfl Try.underlying46 info25 rfl (by decide) (by omega) vo o wl [.slice A2 wl.length c2] (fun k => S.ok av k ∧ some k ≠ (Value.slice Aw wl.length cw).ownBlock) (fun k => some k = (Value.slice A2 wl.length c2).ownBlock) rfl rfl ?_ (few_new hS HI1.out HR2.out) (fun k hk => ⟨HI2.out.far hS hk, HI2.out.vw_lt hk⟩) (few_old HI1.out HB2.out HR2.out) HI2.out.below HI2.out.below.size HOL.out ?_
            · exact Kd.M_row (Kd.R_tight rfl (Kd.R_lower HR2.out HI1.out.below.size))
            intro v1 w1 hs1 hb1_ hg1 hat1
            obtain ⟨A1, n1, c1, rfl⟩ : ∃ A n c, v1 = .slice A n c := by obtain ⟨A, c, e⟩ := Kd.S_slice hs1; exact ⟨A, _, c, e⟩
            have HP := Aside0.mk (HI2.out.put_out hS hs1 hb1_ hg1)
            have hco4 : w1.cell? ⟨S.go, 0, none⟩ = some vo := (blk_cell (HI2.out.go_kept hg1) 0).trans rfl
            have hfo4 := blk_frozen (HI2.out.go_kept hg1) 0
            clear hs1 hb1_ hg1 hat1
            show K (Act.put _ (some 16) _) w1
            refine hK _ _ ?_
            clear hK K
            refine wpAny_ready (rs := [5]) (by kernel_rfl) (by simp) ?_
            refine AllReady.cons rfl (fun K hK => ?_) ?_
            · -- 5
              go_simp
              refine hK _ _ ?_
              clear hK K
              refine wpAny_done (by kernel_rfl) ?_ _
              go_wp2
              exact bodyPost_ret (v := .tuple #[]) (by simp [results, Try.results78, go_sem]) rfl ⟨rfl, _, HP.out.1, (FewKeep.of_below HI.out.avlt HB1.out).trans ((FewKeep.of_below HI1.out.avlt HB2.out).trans HP.out.2)⟩
            exact AllReady.nil
          exact AllReady.nil
        exact AllReady.nil
      refine AllReady.cons rfl (fun K hK => ?_) ?_
      · -- 3
        go_simp
        have hco3 : (W2.alloc (.cells #[.slice A2 wl.length c2] 25)).cell? ⟨S.go, 0, none⟩ = some vo := (blk_cell (blk_alloc HI2.out.co _) 0).trans rfl
        refine hK _ _ ?_
        clear hK K
        refine wpAny_ready (rs := [0]) (by kernel_rfl) (by simp) ?_
        refine AllReady.cons rfl (fun K hK => ?_) ?_
        · -- 0
          go_simp
          refine hK _ _ ?_
          clear hK K
          refine wpAny_ready (rs := [4]) (by kernel_rfl) (by simp) ?_
          refine AllReady.cons rfl (fun K hK => ?_) ?_
          · -- 4
            refine Kd.S_append_step (Kd.slice 3 (Kd.int .i64)) (w0 := S.w) (W := W2) S.w.heap.size (by rfl) (.tmp 12) (.tmp 15) 46 25 (.slice none 0 0) 24 rfl Try.underlying46 info25 rfl (by decide) (by omega) vo o wl [.slice A2 wl.length c2] (fun k => S.ok av k ∧ some k ≠ (Value.slice Aw wl.length cw).ownBlock) (fun k => some k = (Value.slice A2 wl.length c2).ownBlock) rfl rfl ?_ (few_new hS HI1.out HR2.out) (fun k hk => ⟨HI2.out.far hS hk, HI2.out.vw_lt hk⟩) (few_old HI1.out HB2.out HR2.out) HI2.out.below HI2.out.below.size HOL.out ?_
            · exact Kd.M_row (Kd.R_tight rfl (Kd.R_lower HR2.out HI1.out.below.size))
            intro v1 w1 hs1 hb1_ hg1 hat1
            obtain ⟨A1, n1, c1, rfl⟩ : ∃ A n c, v1 = .slice A n c := by obtain ⟨A, c, e⟩ := Kd.S_slice hs1; exact ⟨A, _, c, e⟩
            have HP := Aside0.mk (HI2.out.put_out hS hs1 hb1_ hg1)
            have hco4 : w1.cell? ⟨S.go, 0, none⟩ = some vo := (blk_cell (HI2.out.go_kept hg1) 0).trans rfl
            have hfo4 := blk_frozen (HI2.out.go_kept hg1) 0
            clear hs1 hb1_ hg1 hat1
            show K (Act.put _ (some 16) _) w1
            refine hK _ _ ?_
            clear hK K
            refine wpAny_ready (rs := [5]) (by kernel_rfl) (by simp) ?_
            refine AllReady.cons rfl (fun K hK => ?_) ?_
            · -- 5
              go_simp
              refine hK _ _ ?_
              clear hK K
              refine wpAny_done (by kernel_rfl) ?_ _
              go_wp2
              exact bodyPost_ret (v := .tuple #[]) (by simp [results, Try.results78, go_sem]) rfl ⟨rfl, _, HP.out.1, (FewKeep.of_below HI.out.avlt HB1.out).trans ((FewKeep.of_below HI1.out.avlt HB2.out).trans HP.out.2)⟩
            exact AllReady.nil
          exact AllReady.nil
        exact AllReady.nil
      exact AllReady.nil
    exact AllReady.nil
  exact AllReady.nil
set_option maxHeartbeats 8000000 in
set_option maxRecDepth 100000 in
theorem few_step {S : FewA} (hS : S.Ok) (F d : Nat) (t s : Int) (l wl : List Int) (out : List (List Int)) (hal : impl_Poset_all.f S.p = some t) (hst : ¬ s = t) (hnx : impl_Poset_next.f F S.p s = some l) (hl : l.length ≤ 1000) (hrow : few_row (few_put F S.p d) s wl l = some out)
    (ih : ∀ (s : Int) (wl : List Int) (out : List (List Int)), few_put F S.p d s wl = some out → ∀ {av : Nat → Prop} {vo vw : Value} {o : List (List Int)} {W : World}, FewI S av vo vw o wl W → (o.length + out.length) * 24 ≤ 140737488355328 →
      Calls Try.prog 78 #[.int .i64 s, .pointer (some ⟨S.gp, 0, none⟩), .pointer (some ⟨S.go, 0, none⟩), .pointer (some ⟨S.gw, 0, none⟩), .pointer (some ⟨S.gf, 0, none⟩)] W fun e W' => e = .returned (.tuple #[]) ∧ ∃ vo' vw', FewI S av vo' vw' (o ++ out) wl W' ∧ FewKeep av W W')
    {av : Nat → Prop} {vo vw : Value} {o : List (List Int)} {W : World} (h : FewI S av vo vw o wl W) (hol : (o.length + out.length) * 24 ≤ 140737488355328) :
    Calls Try.prog 78 #[.int .i64 s, .pointer (some ⟨S.gp, 0, none⟩), .pointer (some ⟨S.go, 0, none⟩), .pointer (some ⟨S.gw, 0, none⟩), .pointer (some ⟨S.gf, 0, none⟩)] W fun e W' => e = .returned (.tuple #[]) ∧ ∃ vo' vw', FewI S av vo' vw' (o ++ out) wl W' ∧ FewKeep av W W' := by
  have hu28 := Try.underlying34
  have hcp : W.cell? ⟨S.gp, 0, none⟩ = some (.slice S.A0 S.p.length S.c0) := (blk_cell h.cp 0).trans rfl
  have hst' : (s == t) = false := beq_eq_false_iff_ne.mpr hst
  have HALL := Aside0.mk (impl_Poset_all.calls S.A0 S.c0 S.p t W (Kd.C_below hS.C h.below) hS.le hal)
  have HI := Aside0.mk h
  have HOL := Aside0.mk hol
  have HNX := Aside0.mk hnx
  have HROW := Aside0.mk hrow
  have HL := Aside0.mk hl
  have IH := Aside0.mk @ih
  clear h hol hal hnx hrow hl ih hst
  go_enter Try.func78, Try.ntmps78
  go_wp2_with (first
    | (go_at_call 51; (with_reducible refine HALL.out.mono ?_); rintro e W1 ⟨rfl, hb1⟩; have HI1 := Aside0.mk (HI.out.step hb1); have hcp1 : W1.cell? ⟨S.gp, 0, none⟩ = some (.slice S.A0 S.p.length S.c0) := (blk_cell HI1.out.cp 0).trans rfl; have HB1 := Aside0.mk hb1; clear hb1)
    | (go_at_call 79; (with_reducible refine (impl_Poset_next.calls F S.A0 S.c0 S.p s l _ (Kd.C_below hS.C HI1.out.below) hS.le HNX.out).mono ?_); rintro e W2 ⟨vl, rfl, hr2, hb2⟩; obtain ⟨Al, cl, rfl⟩ := Kd.R_slice hr2; have HI2 := Aside0.mk (HI1.out.with_row hb2 hr2); have HB2 := Aside0.mk hb2; have HR2 := Aside0.mk hr2; clear hb2 hr2))
  go_loopg [21] (l.length + 1) (fun kq v21 w' => ∃ (i : Nat) (vo' vw' : Value) (o' rest : List (List Int)), v21 = .int .i64 (i : Int) ∧ Aside0 (kq + i = l.length + 1 ∧ i ≤ l.length) ∧ Aside0 (few_row (few_put F S.p d) s wl (l.drop i) = some rest) ∧ Aside0 (o' ++ rest = o ++ out) ∧ Aside0 (FewI S (fewAv av (.slice Al l.length cl)) vo' vw' o' wl w') ∧ Aside0 (FewKeep (fewAv av (.slice Al l.length cl)) W2 w'))
  case atStart => exact ⟨0, vo, vw, o, out, rfl, ⟨rfl, Nat.zero_le _⟩, HROW, ⟨rfl⟩, HI2, ⟨FewKeep.refl _ _⟩⟩
  case round =>
    obtain ⟨i, vo', vw', o', rest, rfl, HK, HRO, HEQ, HI3, HKP⟩ := hrel
    cases gk with
    | zero => exact absurd HK.out (by omega)
    | succ k1 =>
      obtain ⟨Aw, cw, rfl⟩ := Kd.R_slice HI3.out.HW
      have hcw' : wr.cell? ⟨S.gw, 0, none⟩ = some (.slice Aw wl.length cw) := (blk_cell HI3.out.cw 0).trans rfl
      have hfw' := blk_frozen HI3.out.cw 0
      by_cases hi : i < l.length
      · obtain ⟨e, hd⟩ : ∃ e, l.drop i = e :: l.drop (i + 1) := ⟨_, List.drop_eq_getElem_cons hi⟩
        obtain ⟨g, cap, ev, hgb, hgl, _⟩ := Kd.R_form HR2.out (by omega)
        injection ev with e1 e2 e3
        subst e1; subst e3
        clear e2
        have hcell : wr.cell? ⟨g, i, none⟩ = some (.int .i64 e) := by
          have := few_cell HR2.out HKP.out i hi
          rwa [(few_rd hd).2.1] at this
        have HRO' := HRO.out
        rw [hd] at HRO'
        unfold few_row at HRO'
        split at HRO'
        rotate_left
        · cases HRO'
        rename_i hew
        obtain ⟨o1, hA, HRO'⟩ := Option.bind_eq_some_iff.1 HRO'
        obtain ⟨o2, hB, HRO'⟩ := Option.bind_eq_some_iff.1 HRO'
        rw [few_shl] at hA
        have HSZ : Aside0 ((o'.length + o1.length) * 24 ≤ 140737488355328) := ⟨by have h1 := congrArg List.length HEQ.out; have h2 := congrArg List.length (Option.some.inj HRO'); have h3 := HOL.out; simp only [List.length_append] at h1 h2; omega⟩
        have HA := Aside0.mk hA
        have HB := Aside0.mk hB
        have HRE := Aside0.mk (Option.some.inj HRO')
        have HEW := Aside0.mk hew.2
        have he0 : (0 : Int) ≤ e := hew.1
        clear hA hB HRO' hew HRO hd
        have c1 : (0 : Int) ≤ (i : Int) := by omega
        have c2 : (i : Int) < (l.length : Int) := by omega
        have c3 : decide ((i : Int) < (l.length : Int)) = true := decide_eq_true c2
        have c5 : decide (i < l.length) = true := decide_eq_true hi
        have c4 := eq_true hi
        clear hi
        go_wp2_with ((with_reducible refine gate_builtin (b := .append) (xs := #[.tmp 25, .tmp 27]) rfl ?_); at_builtin; refine Kd.R_append (Kd.int .i64) (w0 := S.w) S.w.heap.size rfl (.tmp 25) (.tmp 27) 25 3 (.int .i64 0) 8 rfl Try.underlying25 info3 rfl (by decide) (by omega) (.slice Aw wl.length cw) wl e [.int .i64 e] (S.ok (fewAv av (.slice (some ⟨g, 0, none⟩) l.length cl))) (fun _ => False) rfl rfl ?aP (fun _ hk => hk.elim) ?aF ?aO ?aB ?aS ?aL ?_; (case aP => exact rfl); (case aB => exact HI3.out.below); (case aF => exact fun k hk => HI3.out.far hS hk); (case aO => exact HI3.out.HW); (case aS => exact HI3.out.below.size); (case aL => have := HEW.out; omega); intro v1 w1 hr1 hb1 hg1 hat1; obtain ⟨A1, n1, k1_, rfl⟩ : ∃ A n c, v1 = .slice A n c := (by obtain ⟨A, c, e⟩ := Kd.R_slice hr1; exact ⟨A, _, c, e⟩); have HP := Aside0.mk (HI3.out.put_w hS hr1 hb1 hg1 hat1); have hcw1 : w1.cell? ⟨S.gw, 0, none⟩ = some (.slice Aw wl.length cw) := (blk_cell (HI3.out.gw_kept hg1) 0).trans rfl; have hfw1 := blk_frozen (HI3.out.gw_kept hg1) 0; clear hr1 hb1 hg1 hat1)
        obtain ⟨W4, hW4⟩ : ∃ x, x = w1.setCell ⟨S.gw, 0, none⟩ (.slice A1 n1 k1_) := ⟨_, rfl⟩
        rw [← hW4]
        have HP4 := HP.out
        rw [← hW4] at HP4
        have HP5 := Aside0.mk HP4
        clear HP4 HP hW4 hcw1 hfw1 hcell hcw' hfw'
        have hcf4 : W4.cell? ⟨S.gf, 0, none⟩ = some (.func (.func 78) #[] S.caps) := (blk_cell HP5.out.1.cf 0).trans rfl
        unfold FewA.caps at hcf4
        go_region_with (go_at_call 78; (with_reducible refine (IH.out _ _ _ HA.out (HP5.out.1.step (below_drew (Below.refl _ _))) HSZ.out).mono ?_); rintro e' W5 ⟨rfl, vo2, vw2, hI5, hk5⟩; obtain ⟨A5, c5, rfl⟩ := Kd.R_slice hI5.HW; have hcw5 : W5.cell? ⟨S.gw, 0, none⟩ = some (.slice A5 (wl ++ [e]).length c5) := (blk_cell hI5.cw 0).trans rfl; have hfw5 := blk_frozen hI5.cw 0; have hlc5 := (Kd.R_reads' hI5.HW).2.1; have HI5 := Aside0.mk hI5; have HK5 := Aside0.mk hk5; clear hI5 hk5)
        rw [List.length_append, List.length_singleton] at hcw5 hlc5
        have hw5 : wrap64 (wl.length : Int) = (wl.length : Int) := few_w64 _ (Nat.le_succ_of_le HEW.out)
        have hwi : wrap64 ((i : Int) + 1) = ((i + 1 : Nat) : Int) := few_w64 (i + 1) (by have := HL.out; omega)
        have c6 : (0 : Int) ≤ (wl.length : Int) := by omega
        have c7 : (wl.length : Int) ≤ (c5 : Int) := by omega
        have c8 : (wl.length ≤ c5) = True := eq_true (by omega)
        go_wp2_with (fail)
        have HW5 := Aside0.mk (HI5.out.put_w hS (w1 := W5) (v1 := .slice A5 wl.length c5) (wl' := wl) (by have := Kd.R_take HI5.out.HW (m := wl.length) (by simp); simpa using this) HI5.out.below (World.grownBy.refl _ _) (.inl (by first | rfl | (cases A5 <;> rfl))))
        go_roundg k1
        case measure => omega
        case rel => exact ⟨i + 1, vo2, .slice A5 wl.length c5, o' ++ o1, o2, by rw [hwi], ⟨by have := HK.out; omega⟩, HB, ⟨by rw [List.append_assoc, HRE.out]; exact HEQ.out⟩, ⟨HW5.out.1⟩, ⟨HKP.out.trans (HP5.out.2.trans (FewKeep.trans (W2 := W5) HK5.out HW5.out.2))⟩⟩
      · have c3 : decide ((i : Int) < (l.length : Int)) = false := decide_eq_false (by omega)
        go_wp2_with (fail)
        have hil : i = l.length := by have := HK.out; omega
        have HRO' := HRO.out
        rw [hil, List.drop_length] at HRO'
        unfold few_row at HRO'
        have hre := Option.some.inj HRO'
        have hoo := HEQ.out
        rw [← hre, List.append_nil] at hoo
        exact bodyPost_end (v := .tuple #[]) (by simp [results, Try.results78, go_sem]) rfl ⟨rfl, vo', _, hoo ▸ HI3.out.forget, ((FewKeep.of_below HI.out.avlt HB1.out).trans (FewKeep.of_below HI1.out.avlt HB2.out)).trans HKP.out.forget⟩
theorem few_put_calls {S : FewA} (hS : S.Ok) (F : Nat) : ∀ (d : Nat) (s : Int) (wl : List Int) (out : List (List Int)), few_put F S.p d s wl = some out → ∀ (av : Nat → Prop) (vo vw : Value) (o : List (List Int)) (W : World), FewI S av vo vw o wl W → (o.length + out.length) * 24 ≤ 140737488355328 →
    Calls Try.prog 78 #[.int .i64 s, .pointer (some ⟨S.gp, 0, none⟩), .pointer (some ⟨S.go, 0, none⟩), .pointer (some ⟨S.gw, 0, none⟩), .pointer (some ⟨S.gf, 0, none⟩)] W fun e W' => e = .returned (.tuple #[]) ∧ ∃ vo' vw', FewI S av vo' vw' (o ++ out) wl W' ∧ FewKeep av W W'
  | 0, _, _, _, h => by cases h
  | d + 1, s, wl, out, h => by
    intro av vo vw o W hI hol
    unfold few_put at h
    obtain ⟨t, hal, h⟩ := Option.bind_eq_some_iff.1 h
    split at h
    · rename_i hst
      subst hst
      split at h
      rotate_left
      · cases h
      rename_i hlen
      obtain rfl := Option.some.inj h
      refine (few_all hS hI s hal hlen (by simpa using hol)).mono ?_
      rintro e W' ⟨rfl, vo', h1, h2⟩
      exact ⟨rfl, vo', _, h1, h2⟩
    · rename_i hst
      obtain ⟨l, hnx, h⟩ := Option.bind_eq_some_iff.1 h
      split at h
      rotate_left
      · cases h
      rename_i hl
      exact few_step hS F d t s l wl out hal hst hnx hl h (fun s wl out h av vo vw o W hI hs => few_put_calls hS F d s wl out h av vo vw o W hI hs) hI hol
def impl_few.f (k : Nat) (l0_0 : List Int) : Option (List (List Int) × Bool) :=
  (impl_IsPoset.f k l0_0).bind fun b => if b = true then ((impl_Poset_ways.f k l0_0).bind fun ways => if 0 < ways.length then (if rd ways 0 > 500 then some ([], false) else (few_put k l0_0 k 0 []).bind fun o => if o.length ≤ 1000 then some (o, true) else none) else none) else some ([], false)
theorem few_row_mono {g g' : Int → List Int → Option (List (List Int))} (h : ∀ s w, LeO (g s w) (g' s w)) (s : Int) (w : List Int) : ∀ l, LeO (few_row g s w l) (few_row g' s w l)
  | [] => LeO.refl _
  | e :: l => by
    unfold few_row
    exact LeO.ite (LeO.bind (h _ _) (fun _ => LeO.bind (few_row_mono h s w l) (fun _ => LeO.refl _))) (LeO.refl _)
theorem few_put_mono (p : List Int) (k : Nat) : ∀ d s w, LeO (few_put k p d s w) (few_put (k + 1) p (d + 1) s w)
  | 0, s, w => fun r h => by cases h
  | d + 1, s, w => by
    unfold few_put
    exact LeO.bind (LeO.refl _) (fun t => LeO.ite (LeO.refl _) (LeO.bind (impl_Poset_next.mono _ _ _) (fun l => LeO.ite (few_row_mono (fun s w => few_put_mono p k d s w) s w l) (LeO.refl _))))
theorem impl_few.mono : ∀ a0 k, LeO (impl_few.f k a0) (impl_few.f (k + 1) a0) := fun a0 k => by
  unfold impl_few.f
  exact LeO.bind (impl_IsPoset.mono _ _) (fun b => LeO.ite (LeO.bind (impl_Poset_ways.mono _ _) (fun ways => LeO.ite (LeO.ite (LeO.refl _) (LeO.bind (few_put_mono _ _ _ _ _) (fun _ => LeO.refl _))) (LeO.refl _))) (LeO.refl _))
set_option maxHeartbeats 8000000 in
set_option maxRecDepth 100000 in
theorem impl_few.calls (k : Nat) (A0_0 : Option Addr) (c0_0 : Nat) (l0_0 : List Int) (r1 : List (List Int)) (r2 : Bool) (w : World) (hr0_0 : Kd.C (Kd.int .i64) w A0_0 l0_0.length l0_0) (hc0_0 : l0_0.length ≤ c0_0) (h : impl_few.f k l0_0 = some (r1, r2)) :
    Calls Try.prog 60 #[.agg #[.slice A0_0 l0_0.length c0_0]] w fun e w' => ∃ v0_ : Value, e = .returned (.tuple #[v0_, .bool r2]) ∧ Kd.S (Kd.slice 3 (Kd.int .i64)) 25 w' w.heap.size (fun _ => True) v0_ r1 ∧ Below w.heap.size w w' := by
  have hu28 := Try.underlying34
  have hmf : ∀ (fn : Fn) (first cap : Array Value) (w : World), (Instr.makeFunc fn first cap).run Try.prog w = .ok (.func fn first cap) w := fun _ _ _ _ => rfl
  unfold impl_few.f at h
  obtain ⟨b, hb, h⟩ := Option.bind_eq_some_iff.1 h
  have HR := Aside0.mk hr0_0
  have HC := Aside0.mk hc0_0
  have HBP := Aside0.mk hb
  clear hr0_0 hc0_0 hb
  cases b
  · obtain ⟨rfl, rfl⟩ : [] = r1 ∧ false = r2 := by simpa using h
    clear h
    go_enter Try.func60, Try.ntmps60
    go_wp2_with (fail)
    refine (impl_IsPoset.calls k A0_0 c0_0 l0_0 false _ (by (with_reducible repeat (first | refine Kd.C_alloc ?_ _ | refine Kd.C_drewN ?_ _ | refine Kd.C_drew ?_)); exact HR.out) HC.out HBP.out).mono ?_
    rintro e w1 ⟨rfl, hb1⟩
    have HB1 := Aside0.mk hb1
    clear hb1
    go_wp2_with (fail)
    refine bodyPost_ret (results_tmp2 rfl _ _ _) rfl ?_
    exact ⟨_, rfl, ⟨fun _ => 0, Kd.R_nil _ _ _ _ _⟩, (below_alloc (Below.refl _ _) _).trans (HB1.out.mono (by simp))⟩
  · have h := (if_pos rfl).symm.trans h
    obtain ⟨ways, hw, h⟩ := Option.bind_eq_some_iff.1 h
    split at h
    rotate_left
    · cases h
    rename_i hlw
    have HW := Aside0.mk hw
    have HLW := Aside0.mk hlw
    clear hw hlw
    split at h
    · rename_i hgt
      obtain ⟨rfl, rfl⟩ : [] = r1 ∧ false = r2 := by simpa using h
      clear h
      have hgt' : decide (500 < rd ways 0) = true := decide_eq_true hgt
      go_enter Try.func60, Try.ntmps60
      go_wp2_with (fail)
      refine (impl_IsPoset.calls k A0_0 c0_0 l0_0 true _ (by (with_reducible repeat (first | refine Kd.C_alloc ?_ _ | refine Kd.C_drewN ?_ _ | refine Kd.C_drew ?_)); exact HR.out) HC.out HBP.out).mono ?_
      rintro e w1 ⟨rfl, hb1⟩
      have hP1 := blk_below (blk_new w (.cells #[.slice A0_0 l0_0.length c0_0] 34)) hb1
      have hp1 : w1.cell? ⟨w.heap.size, 0, none⟩ = some (.slice A0_0 l0_0.length c0_0) := (blk_cell hP1 0).trans rfl
      have HP1 := Aside0.mk hP1
      have HB1 := Aside0.mk ((below_alloc (Below.refl w.heap.size w) _).trans (hb1.mono (by simp)))
      clear hb1 hP1
      go_wp2_with (fail)
      refine (impl_Poset_ways.calls k A0_0 c0_0 l0_0 ways _ (Kd.C_below HR.out HB1.out) HC.out HW.out).mono ?_
      rintro e w2 ⟨vw, rfl, hrw, hb2⟩
      obtain ⟨gq, cq, rfl, _, _, _⟩ := Kd.R_form hrw HLW.out
      have hq2 := (Kd.R_cell (0 : Int) hrw 0 (by omega) (by have := HLW.out; omega)).1
      have hq3 : w2.cell? ⟨gq, 0, none⟩ = some (.int .i64 (rd ways 0)) := hq2
      have hP2 := Aside0.mk (blk_below HP1.out hb2)
      have HB2 := Aside0.mk (below_step HB1.out hb2)
      have hlw1 : (0 : Int) < (ways.length : Int) := by have := HLW.out; omega
      have hlw2 := HLW.out
      have hlw3 : decide (0 < ways.length) = true := decide_eq_true hlw2
      clear hb2 hrw hq2
      go_wp2_with (fail)
      refine bodyPost_ret (results_tmp2 rfl _ _ _) rfl ?_
      exact ⟨_, rfl, ⟨fun _ => 0, Kd.R_nil _ _ _ _ _⟩, HB2.out⟩
    · rename_i hgt
      have hgt' : decide (500 < rd ways 0) = false := decide_eq_false hgt
      obtain ⟨o, hput, h⟩ := Option.bind_eq_some_iff.1 h
      split at h
      rotate_left
      · cases h
      rename_i hol
      obtain ⟨rfl, rfl⟩ : o = r1 ∧ true = r2 := by simpa using h
      clear h
      have HPUT := Aside0.mk hput
      have HOL := Aside0.mk hol
      clear hput hol
      go_enter Try.func60, Try.ntmps60
      go_wp2_with (fail)
      refine (impl_IsPoset.calls k A0_0 c0_0 l0_0 true _ (by (with_reducible repeat (first | refine Kd.C_alloc ?_ _ | refine Kd.C_drewN ?_ _ | refine Kd.C_drew ?_)); exact HR.out) HC.out HBP.out).mono ?_
      rintro e w1 ⟨rfl, hb1⟩
      have hP1 := blk_below (blk_new w (.cells #[.slice A0_0 l0_0.length c0_0] 34)) hb1
      have hp1 : w1.cell? ⟨w.heap.size, 0, none⟩ = some (.slice A0_0 l0_0.length c0_0) := (blk_cell hP1 0).trans rfl
      have HP1 := Aside0.mk hP1
      have HB1 := Aside0.mk ((below_alloc (Below.refl w.heap.size w) _).trans (hb1.mono (by simp)))
      clear hb1 hP1
      go_wp2_with (fail)
      refine (impl_Poset_ways.calls k A0_0 c0_0 l0_0 ways _ (Kd.C_below HR.out HB1.out) HC.out HW.out).mono ?_
      rintro e w2 ⟨vw, rfl, hrw, hb2⟩
      obtain ⟨gq, cq, rfl, _, _, _⟩ := Kd.R_form hrw HLW.out
      have hq2 := (Kd.R_cell (0 : Int) hrw 0 (by omega) (by have := HLW.out; omega)).1
      have hq3 : w2.cell? ⟨gq, 0, none⟩ = some (.int .i64 (rd ways 0)) := hq2
      have hP2 := Aside0.mk (blk_below HP1.out hb2)
      have HB2 := Aside0.mk (below_step HB1.out hb2)
      have hlw1 : (0 : Int) < (ways.length : Int) := by have := HLW.out; omega
      have hlw2 := HLW.out
      have hlw3 : decide (0 < ways.length) = true := decide_eq_true hlw2
      clear hb2 hrw hq2
      obtain ⟨S, hS, rfl, hSw, e1, e2, e3, e4, hI⟩ := few_start HR.out HC.out HB2.out hP2.out
      have HS := Aside0.mk hS
      have hcaps : S.caps = #[.pointer (some ⟨w.heap.size, 0, none⟩), .pointer (some ⟨w2.heap.size + 1 + 1, 0, none⟩), .pointer (some ⟨w2.heap.size + 1 + 1 + 1, 0, none⟩), .pointer (some ⟨w2.heap.size + 1 + 1 + 1 + 1, 0, none⟩)] := by unfold FewA.caps; rw [e1, e2, e3, e4]
      have hcall := few_put_calls hS k k 0 [] o HPUT.out (fun _ => False) _ _ [] _ hI (by have := HOL.out; simp; omega)
      unfold fewWorld at hcall
      rw [hcaps, e1, e2, e3, e4] at hcall
      have HCALL := Aside0.mk hcall
      clear hcall hI hS
      go_wp2_with (fail)
      refine HCALL.out.mono ?_
      rintro e W5 ⟨rfl, vo', vw', h5, h6⟩
      obtain ⟨A5, n5, c5, rfl⟩ : ∃ A n c, vo' = .slice A n c := by obtain ⟨A, c, e⟩ := Kd.S_slice h5.HO; exact ⟨A, _, c, e⟩
      have hco5 : W5.cell? ⟨w2.heap.size + 1 + 1, 0, none⟩ = some (.slice A5 n5 c5) := by rw [← e2]; exact (blk_cell h5.co 0).trans rfl
      have H5 := Aside0.mk h5
      clear h5 h6 HCALL
      go_wp2_with (fail)
      refine bodyPost_ret (results_tmp2 rfl _ _ _) rfl ⟨_, rfl, ?_, ?_⟩
      · have := H5.out.HO
        rw [hSw, List.nil_append] at this
        exact Kd.S_mono this (fun _ _ => trivial)
      · have := H5.out.below
        rwa [hSw] at this
end Go.Proofs.Ytnihjpnheooeoaa.F
end

section
namespace Go.Proofs.Ytnihjpnheooeoaa.Q
open Go.RowKit Go.Proofs.YtnihjpnheooeoaaW.PrintWords Go.Proofs.Ytnihjpnheooeoaa.F
set_option linter.unusedVariables false
/-- All orders from a set on. -/
def allW (p : List Int) : Nat → Nat → List (List Nat)
  | 0, _ => [[]]
  | d + 1, s => (nextN p s).flatMap fun e => (allW p d (s ||| 2 ^ e)).map (e :: ·)
theorem pick_range (p : List Int) (s : Nat) (g : Nat → Nat → List Nat) : ∀ l : List Nat,
    (List.range (sumL (l.map fun e => ways p (s ||| 2 ^ e)))).map (fun r => (pick p s l r).1 :: g (s ||| 2 ^ (pick p s l r).1) (pick p s l r).2) = l.flatMap fun e => (List.range (ways p (s ||| 2 ^ e))).map fun r => e :: g (s ||| 2 ^ e) r := by
  intro l
  induction l with
  | nil => rfl
  | cons e l ih =>
    simp only [List.map_cons, sumL, List.flatMap_cons]
    rw [List.range_add, List.map_append, List.map_map, ← ih]
    congr 1
    · refine List.map_congr_left fun r hr => ?_
      have hr := List.mem_range.1 hr
      simp only [pick, if_pos hr]
    · refine List.map_congr_left fun r hr => ?_
      simp only [Function.comp, pick]
      rw [if_neg (by omega), Nat.add_sub_cancel_left]
theorem allW_eq {p : List Int} (hp : PO p) : ∀ (d s : Nat), s < 2 ^ p.length → pcard p.length s + d = p.length → allW p d s = (List.range (ways p s)).map (linW p d s) := by
  intro d
  induction d with
  | zero =>
    intro s hs hc
    rw [all_of_pcard hs (by omega), ways_all]
    rfl
  | succ d ih =>
    intro s hs hc
    have hall : s ≠ allN p := by
      intro e
      rw [e, pcard_all] at hc; omega
    rw [ways_step hs hall]
    have h := pick_range p s (linW p d) (nextN p s)
    refine Eq.trans ?_ h.symm
    unfold allW
    rw [List.flatMap_def, List.flatMap_def]
    congr 1
    refine List.map_congr_left fun e he => ?_
    obtain ⟨_, m1, m2, _⟩ := mem_nextN.1 he
    rw [ih _ (or_lt hs (pow_lt_pow m1)) (by rw [pcard_add m1 m2]; omega), List.map_map]
    rfl
theorem allW_len {p : List Int} : ∀ (d s : Nat), ∀ w ∈ allW p d s, w.length = d := by
  intro d
  induction d with
  | zero => intro s w hw; unfold allW at hw; rw [List.mem_singleton.1 hw]; rfl
  | succ d ih =>
    intro s w hw
    unfold allW at hw
    obtain ⟨e, _, hw⟩ := List.mem_flatMap.1 hw
    obtain ⟨v, hv, rfl⟩ := List.mem_map.1 hw
    rw [List.length_cons, ih _ _ hv]
theorem few_row_ev {g : Nat → Int → List Int → Option (List (List Int))} {p : List Int} {d s : Nat} {w : List Int} (hw : w.length ≤ 1000) (hs : s < 2 ^ 61) : ∀ l : List Nat, (∀ e ∈ l, e < 61 ∧ Ev (fun k => g k ((s ||| 2 ^ e : Nat) : Int) (w ++ [(e : Int)])) ((allW p d (s ||| 2 ^ e)).map fun v => (w ++ [(e : Int)]) ++ ints v)) →
    Ev (fun k => few_row (g k) (s : Int) w (ints l)) ((l.flatMap fun e => (allW p d (s ||| 2 ^ e)).map (e :: ·)).map fun v => w ++ ints v) := by
  intro l
  induction l with
  | nil => intro _; exact Ev.ret rfl
  | cons e l ih =>
    intro h
    obtain ⟨he, hg⟩ := h e List.mem_cons_self
    have h2 := ih (fun x hx => h x (List.mem_cons_of_mem _ hx))
    have e1 : ints (e :: l) = (e : Int) :: ints l := rfl
    rw [e1]
    simp only [few_row]
    refine Ev.yes ⟨by omega, hw⟩ ?_
    rw [shlN (by omega), bits_orN (Nat.lt_trans hs (by decide)) (Nat.pow_lt_pow_right (by decide) (by omega))]
    refine Ev.bind hg (Ev.bind h2 (Ev.ret ?_))
    rw [List.flatMap_cons, List.map_append, List.map_map]
    congr 1
    refine List.map_congr_left fun v _ => ?_
    show (w ++ [(e : Int)]) ++ ints v = w ++ ints (e :: v)
    rw [List.append_assoc]; rfl
theorem few_put_ev {p : List Int} (hp : PO p) : ∀ (d s : Nat) (w : List Int), s < 2 ^ p.length → idealB p s = true → pcard p.length s = w.length → w.length + d = p.length →
    Ev (fun k => few_put k p (k + (d + 1)) (s : Int) w) ((allW p d s).map fun v => w ++ ints v) := by
  have hn := hp.small
  intro d
  induction d with
  | zero =>
    intro s w hs hid hc hd
    have hall : s = allN p := all_of_pcard hs (by omega)
    simp only [few_put]
    refine Ev.call (all_eq (by omega)) (Ev.yes (show ((s : Nat) : Int) = ((allN p : Nat) : Int) from by rw [hall]) (Ev.yes (by omega) (Ev.ret ?_)))
    simp [allW, ints]
  | succ d ih =>
    intro s w hs hid hc hd
    have hall : s ≠ allN p := by
      intro e
      rw [e, pcard_all] at hc; omega
    simp only [few_put]
    refine Ev.call (all_eq (by omega)) (Ev.no (show ¬ (((s : Nat) : Int) = ((allN p : Nat) : Int)) from fun h => hall (by exact_mod_cast h)) (Ev.bind (next_ev hp hs) (Ev.yes ?_ ?_)))
    · rw [ints_len]
      have : (nextN p s).length ≤ 10 := by unfold nextN; exact Nat.le_trans (List.length_filter_le _ _) (by simp)
      omega
    · have := few_row_ev (g := fun k => few_put k p (k + (d + 1))) (p := p) (d := d) (w := w) (by omega) (lt_pow hs (by omega)) (nextN p s) (fun e he => by
        obtain ⟨_, m1, m2, _⟩ := mem_nextN.1 he
        refine ⟨by omega, ?_⟩
        exact ih (s ||| 2 ^ e) (w ++ [(e : Int)]) (or_lt hs (pow_lt_pow m1)) (idealB_add hp hid he) (by rw [pcard_add m1 m2, hc, List.length_append, List.length_singleton]) (by rw [List.length_append, List.length_singleton]; omega))
      exact this
theorem few_put_monoF (p : List Int) (k : Nat) : ∀ d s w, LeO (few_put k p d s w) (few_put (k + 1) p d s w)
  | 0, s, w => fun r h => by cases h
  | d + 1, s, w => by
    unfold few_put
    exact LeO.bind (LeO.refl _) (fun t => LeO.ite (LeO.refl _) (LeO.bind (impl_Poset_next.mono _ _ _) (fun l => LeO.ite (few_row_mono (fun s w => few_put_monoF p k d s w) s w l) (LeO.refl _))))
/-- All orders, the first ranks first. -/
def rowsTo (p : List Int) (r : Nat) : List (List Int) := (List.range r).map fun r => ints (linW p p.length 0 r)
theorem rowsTo_len (p : List Int) (r : Nat) : (rowsTo p r).length = r := by simp [rowsTo]
theorem rowsTo_mem {p : List Int} {r : Nat} : ∀ q ∈ rowsTo p r, q.length = p.length := by
  intro q hq
  obtain ⟨x, _, rfl⟩ := List.mem_map.1 hq
  rw [ints_len, linW_len]
theorem few_all_ev {p : List Int} (hp : PO p) : Ev (fun k => few_put k p k 0 []) (rowsTo p (ways p 0)) := by
  have h := few_put_ev hp p.length 0 [] (Nat.two_pow_pos _) (idealB_zero p) (by rw [pcard_zero]; rfl) (by simp)
  rw [allW_eq hp p.length 0 (Nat.two_pow_pos _) (by rw [pcard_zero]; omega), List.map_map] at h
  obtain ⟨K, h⟩ := h
  refine ⟨K + (p.length + 1), fun k hk => ?_⟩
  have h1 := h (k - (p.length + 1)) (by omega)
  dsimp only at h1
  rw [show k - (p.length + 1) + (p.length + 1) = k by omega] at h1
  have h2 := at_rounds (g := fun F => few_put F p k 0 []) (fun F => few_put_monoF p F k 0 []) (show k - (p.length + 1) ≤ k by omega) h1
  refine Eq.trans h2 ?_
  rfl
theorem first_way {p : List Int} (hp : PO p) : rd (Wl p 0) 0 = ((ways p 0 : Nat) : Int) := by
  refine (rdN (Wl p 0) 0).trans ?_
  rw [Wl_get p 0 (Nat.two_pow_pos _)]; unfold wayAt; rw [if_pos (Nat.le_refl _), if_pos (idealB_zero p)]
theorem first_cnt {p : List Int} (hp : PO p) : rd (Cl p 0) 0 = ((ways p 0 : Nat) : Int) := (rdN (Cl p 0) 0).trans (Cl_at (Nat.two_pow_pos _))
/-- The program's list. -/
theorem few_ev (p : List Int) : Ev (fun k => impl_few.f k p) (if isPo p = true ∧ ways p 0 ≤ 500 then (rowsTo p (ways p 0), true) else ([], false)) := by
  unfold impl_few.f
  refine Ev.bind (IsPoset_ev p) ?_
  cases hpo : isPo p with
  | false => exact Ev.no (by simp) (Ev.ret (by simp))
  | true =>
    have hP := (isPo_iff p).1 hpo
    have h2 : 0 < 2 ^ p.length := Nat.two_pow_pos _
    refine Ev.yes rfl (Ev.bind (ways_table hP) (Ev.yes (by rw [Wl_len]; omega) ?_))
    rw [first_way hP]
    by_cases hw : ways p 0 ≤ 500
    · rw [if_pos ⟨rfl, hw⟩]
      exact Ev.no (by omega) (Ev.bind (few_all_ev hP) (Ev.yes (by rw [rowsTo_len]; omega) (Ev.now _)))
    · rw [if_neg (fun h => hw h.2)]
      exact Ev.yes (by omega) (Ev.now _)
/-- The reference's list. -/
theorem liAll_run {p : List Int} (hp : PO p) (hw : ways p 0 ≤ 500) : ∀ r, r ≤ ways p 0 → Ev (fun k => spec_liAll.l0 k (Cl p 0) (rowsTo p r) (r : Int) p) (rowsTo p (ways p 0), true) := by
  have h2 : 0 < 2 ^ p.length := Nat.two_pow_pos _
  refine downTo _ ?_ ?_
  · refine Ev.step (by intro k; simp only [spec_liAll.l0]; rfl) (Ev.yes (by rw [Cl_len]; omega) ?_)
    rw [first_cnt hp]
    exact Ev.no (by omega) (Ev.now _)
  · intro r hr ih
    refine Ev.step (by intro k; simp only [spec_liAll.l0]; rfl) (Ev.yes (by rw [Cl_len]; omega) ?_)
    rw [first_cnt hp]
    refine Ev.yes (by omega) (Ev.bind (liWith_ev hp hr) (Ev.yes (by rw [rowsTo_len]; omega) ?_))
    rw [wid (by omega) (by omega)]
    have e : rowsTo p r ++ [ints (linW p p.length 0 r)] = rowsTo p (r + 1) := by unfold rowsTo; rw [List.range_succ, List.map_append]; rfl
    rw [e]
    exact ih
theorem liAll_ev {p : List Int} (hp : PO p) : Ev (fun k => spec_liAll.f k p) (if ways p 0 ≤ 500 then (rowsTo p (ways p 0), true) else ([], false)) := by
  unfold spec_liAll.f
  have h2 : 0 < 2 ^ p.length := Nat.two_pow_pos _
  refine Ev.bind (liCounts_ev hp) (Ev.yes (by rw [Cl_len]; omega) ?_)
  rw [first_cnt hp]
  by_cases hw : ways p 0 ≤ 500
  · rw [if_pos hw]
    exact Ev.no (by omega) (liAll_run hp hw 0 (Nat.zero_le _))
  · rw [if_neg hw]
    exact Ev.yes (by omega) (Ev.now _)
end Go.Proofs.Ytnihjpnheooeoaa.Q
end

section
namespace Go.Proofs.Ytnihjpnheooeoaa.F
open Go.RowKit Go.Proofs.YtnihjpnheooeoaaW.PrintWords Go.Proofs.YtnihjpnheooeoaaW.PrintLast Go.Proofs.YtnihjpnheooeoaaW.PrintMore
set_option linter.unusedVariables false
set_option linter.unusedSimpArgs false
def impl_rectangle.f (k : Nat) (a0 a1 : Int) : Option (List Int) := made_rectangle.f (fun j i => lit_rectangle.f j i a1) k (wrap64 (a0 * a1))
theorem impl_rectangle.mono : ∀ a0 a1 k, LeO (impl_rectangle.f k a0 a1) (impl_rectangle.f (k + 1) a0 a1) := fun a0 a1 k => made_rectangle.mono _ _ k
set_option maxHeartbeats 8000000 in
set_option maxRecDepth 100000 in
theorem impl_rectangle.calls (k : Nat) (a0 : Int) (a1 : Int) (r : List Int) (w : World) (h : impl_rectangle.f k a0 a1 = some r) :
    Calls Try.prog 69 #[.int .i64 a0, .int .i64 a1] w fun e w' => ∃ v0_ : Value, e = .returned (.agg #[v0_]) ∧ Kd.R (Kd.int .i64) 3 w' w.heap.size (fun _ => True) v0_ r ∧ Below w.heap.size w w' := by
  unfold impl_rectangle.f at h
  have hmf : ∀ (fn : Fn) (first cap : Array Value) (w : World), (Instr.makeFunc fn first cap).run Try.prog w = .ok (.func fn first cap) w := fun _ _ _ _ => rfl
  have hu39 := Try.underlying34
  obtain ⟨W, hW⟩ : ∃ W, W = (w.alloc (.cells #[.int .i64 a1] 3 (0, 0))).alloc (.cells #[.slice none 0 0] 34 (0, 0)) := ⟨_, rfl⟩
  have hsz : W.heap.size = w.heap.size + 2 := by rw [hW]; simp
  have hcB : W.cell? ⟨w.heap.size, 0, none⟩ = some (.int .i64 a1) := by rw [hW, World.cell?_alloc_past _ _ _ (by simp), World.cell?_alloc_at _ _ _ _ rfl]; rfl
  have hP : W.heap[w.heap.size + 1]? = some (.cells #[.slice none 0 0] 34 (0, 0)) := by rw [hW]; simpa using heap_alloc_new (w.alloc (.cells #[.int .i64 a1] 3 (0, 0))) (.cells #[.slice none 0 0] 34 (0, 0))
  have hbW : Below w.heap.size w W := by rw [hW]; exact ((Below.refl _ _).alloc (Nat.le_refl _) _).alloc (by simp) _
  have HF : Aside0 (∀ (x0_ : Int) (x1_ : Int) (r_ : Bool) (W' : World), lit_rectangle.f x0_ x1_ a1 = some r_ → Below W.heap.size W W' → Calls Try.prog 85 #[.int .i64 x0_, .int .i64 x1_, .pointer (some ⟨w.heap.size, 0, none⟩)] W' fun e w' => e = .returned (.bool r_) ∧ Drawn0 W' w') :=
    ⟨fun x0_ x1_ r_ W' hF hb => lit_rectangle.calls w.heap.size x0_ x1_ a1 r_ W' ((hb.cell (p := ⟨w.heap.size, 0, none⟩) (by rw [hsz]; show w.heap.size < w.heap.size + 2; omega)).trans hcB) hF⟩
  have hcall := made_rectangle.calls (fun j i => lit_rectangle.f j i a1) w.heap.size k _ r W HF h
  have hcall' : Aside0 (Calls Try.prog 49 #[.int .i64 (wrap64 (a0 * a1)), .func (.func 85) #[] #[.pointer (some ⟨w.heap.size, 0, none⟩)]] ((w.alloc (.cells #[.int .i64 a1] 3 (0, 0))).alloc (.cells #[.slice none 0 0] 34 (0, 0))) fun e w' => ∃ v0_ : Value, e = .returned (.agg #[v0_]) ∧ (Kd.R (Kd.int .i64) 3 w' W.heap.size (fun _ => True) v0_ r ∧ Below W.heap.size W w')) := ⟨by rw [← hW]; exact hcall⟩
  have HW := Lib.hid hW
  clear hcall HF h hW
  have HP := Aside0.mk hP
  have HsW := Aside0.mk hsz
  have HbW := Aside0.mk hbW
  clear hcB hP hsz hbW
  go_enter Try.func69, Try.ntmps69
  go_wp2_with fail
  refine hcall'.out.mono ?_
  rintro e w1 ⟨v, rfl, ho, hb⟩
  have hlt : w.heap.size + 1 < W.heap.size := by have := HsW.out; omega
  have hP1 := Aside0.mk ((hb.block (w.heap.size + 1) hlt).trans HP.out)
  have hc1 : w1.cell? ⟨w.heap.size + 1, 0, none⟩ = some (.slice none 0 0) := (blk_cell hP1.out 0).trans rfl
  have hf1 := blk_frozen hP1.out 0
  obtain ⟨Ao, co, eo⟩ := Kd.R_slice ho
  subst eo
  have Ho := Aside0.mk ho
  have Hb := Aside0.mk hb
  have Hlt := Aside0.mk hlt
  clear ho hb hlt hmf
  go_wp2
  refine bodyPost_ret (results_cell_row rfl _ _ (w.heap.size + 1) 34 #[.slice Ao r.length co] (0, 0) _ rfl (blk_put (cs := #[.slice none 0 0]) hP1.out 0 _ rfl) Try.underlying34 rfl (by kernel_rfl)) rfl ⟨_, rfl, ?_, ?_⟩
  · refine Kd.R_lower (base := W.heap.size) ?_ (by have := HsW.out; omega)
    exact Kd.R_mono (Kd.R_far (p := ⟨w.heap.size + 1, 0, none⟩) (Kd.R_bound Ho.out) (fun k hk => by have := hk.2.1; have := Hlt.out; show k ≠ w.heap.size + 1; omega) _) (fun _ _ => trivial)
  · exact (HbW.out.trans (Hb.out.mono (by have := HsW.out; omega))).setCell (by show w.heap.size ≤ w.heap.size + 1; omega) _
end Go.Proofs.Ytnihjpnheooeoaa.F
end

section
namespace Go.Proofs.Ytnihjpnheooeoaa.F
open Go.RowKit Go.Proofs.YtnihjpnheooeoaaW.PrintWords Go.Proofs.YtnihjpnheooeoaaW.PrintLast Go.Proofs.YtnihjpnheooeoaaW.PrintMore
attribute [local go_sem] max2_int min2_int max_two min_two max_three min_three max_four min_four
set_option linter.unusedVariables false
set_option linter.unusedSimpArgs false

/-! ### impl_majors: function 46 -/
mutual
def impl_majors.l0 : Nat → Int → Int → List Int → List (List Int) → Int → Int → Option (List Int)
  | 0, _, _, _, _, _, _ => none
  | k + 1, x0, x1, x7, x19, x20, x21 => if x21 < x20 then (if 0 ≤ x21 then (if x21 < (x19.length : Int) then ((impl_tableau.f k x0 x1 (rd_L1 x19 x21)).bind fun t610 => ((impl_major.f k t610).bind fun t613 => (impl_majors.l1 k x0 x1 x7 t613 x19 x20 x21))) else (none)) else (none)) else (some x7)
def impl_majors.l1 : Nat → Int → Int → List Int → Int → List (List Int) → Int → Int → Option (List Int)
  | 0, _, _, _, _, _, _, _ => none
  | k + 1, x0, x1, x7, x10, x19, x20, x21 => if (x7.length : Int) ≤ x10 then (if x7.length < 17592186044416 then (impl_majors.l1 k x0 x1 (x7 ++ [0]) x10 x19 x20 x21) else (none)) else (if 0 ≤ x10 then (if x10 < (x7.length : Int) then (impl_majors.l0 k x0 x1 (x7.set (x10 : Int).toNat (wrap64 ((rd x7 x10) + 1))) x19 x20 (wrap64 (x21 + 1))) else (none)) else (none))
end
def impl_majors.f (k : Nat) (a0 : Int) (a1 : Int) : Option (List Int) := (impl_rectangle.f k a0 a1).bind fun t599 => ((impl_few.f k t599).bind fun bt602 => (impl_majors.l0 k a0 a1 (([] : List Int)) bt602.1 (bt602.1.length : Int) 0))
theorem impl_majors.mono_l : ∀ k, (∀ y0 y1 y2 y3 y4 y5, LeO (impl_majors.l0 k y0 y1 y2 y3 y4 y5) (impl_majors.l0 (k + 1) y0 y1 y2 y3 y4 y5)) ∧ (∀ y0 y1 y2 y3 y4 y5 y6, LeO (impl_majors.l1 k y0 y1 y2 y3 y4 y5 y6) (impl_majors.l1 (k + 1) y0 y1 y2 y3 y4 y5 y6))
  | 0 => ⟨fun _ _ _ _ _ _ r h => by simp [impl_majors.l0] at h, fun _ _ _ _ _ _ _ r h => by simp [impl_majors.l1] at h⟩
  | k + 1 => by
    obtain ⟨ih0, ih1⟩ := impl_majors.mono_l k
    refine ⟨?_, ?_⟩
    · intro y0 y1 y2 y3 y4 y5
      unfold impl_majors.l0
      repeat' first
      | (with_reducible exact ih0 _ _ _ _ _ _)
      | (with_reducible exact ih1 _ _ _ _ _ _ _)
      | (with_reducible exact impl_few.mono _ _)
      | (with_reducible exact impl_major.mono _ _)
      | (with_reducible exact impl_rectangle.mono _ _ _)
      | (with_reducible exact impl_tableau.mono _ _ _ _)
      | (with_reducible exact LeO.refl _)
      | (with_reducible exact LeO.none _)
      | (with_reducible refine LeO.ite ?_ ?_)
      | (with_reducible refine LeO.bind ?_ (fun _ => ?_))
      | exact ih0 _ _ _ _ _ _
      | exact ih1 _ _ _ _ _ _ _
      | exact impl_few.mono _ _
      | exact impl_major.mono _ _
      | exact impl_rectangle.mono _ _ _
      | exact impl_tableau.mono _ _ _ _
      | exact LeO.none _
      | refine LeO.ite ?_ ?_
      | refine LeO.bind ?_ (fun _ => ?_)
    · intro y0 y1 y2 y3 y4 y5 y6
      unfold impl_majors.l1
      repeat' first
      | (with_reducible exact ih0 _ _ _ _ _ _)
      | (with_reducible exact ih1 _ _ _ _ _ _ _)
      | (with_reducible exact impl_few.mono _ _)
      | (with_reducible exact impl_major.mono _ _)
      | (with_reducible exact impl_rectangle.mono _ _ _)
      | (with_reducible exact impl_tableau.mono _ _ _ _)
      | (with_reducible exact LeO.refl _)
      | (with_reducible exact LeO.none _)
      | (with_reducible refine LeO.ite ?_ ?_)
      | (with_reducible refine LeO.bind ?_ (fun _ => ?_))
      | exact ih0 _ _ _ _ _ _
      | exact ih1 _ _ _ _ _ _ _
      | exact impl_few.mono _ _
      | exact impl_major.mono _ _
      | exact impl_rectangle.mono _ _ _
      | exact impl_tableau.mono _ _ _ _
      | exact LeO.none _
      | refine LeO.ite ?_ ?_
      | refine LeO.bind ?_ (fun _ => ?_)
theorem impl_majors.mono : ∀ a0 a1 k, LeO (impl_majors.f k a0 a1) (impl_majors.f (k + 1) a0 a1) := by
  intro a0 a1 k
  obtain ⟨ih0, ih1⟩ := impl_majors.mono_l k
  unfold impl_majors.f
  repeat' first
      | (with_reducible exact ih0 _ _ _ _ _ _)
      | (with_reducible exact ih1 _ _ _ _ _ _ _)
      | (with_reducible exact impl_few.mono _ _)
      | (with_reducible exact impl_major.mono _ _)
      | (with_reducible exact impl_rectangle.mono _ _ _)
      | (with_reducible exact impl_tableau.mono _ _ _ _)
      | (with_reducible exact LeO.refl _)
      | (with_reducible exact LeO.none _)
      | (with_reducible refine LeO.ite ?_ ?_)
      | (with_reducible refine LeO.bind ?_ (fun _ => ?_))
      | exact ih0 _ _ _ _ _ _
      | exact ih1 _ _ _ _ _ _ _
      | exact impl_few.mono _ _
      | exact impl_major.mono _ _
      | exact impl_rectangle.mono _ _ _
      | exact impl_tableau.mono _ _ _ _
      | exact LeO.none _
      | refine LeO.ite ?_ ?_
      | refine LeO.bind ?_ (fun _ => ?_)
set_option maxHeartbeats 8000000 in
set_option maxRecDepth 100000 in
theorem impl_majors.calls (k : Nat) (a0 : Int) (a1 : Int) (r : List Int) (w : World) (h : impl_majors.f k a0 a1 = some r) :
    Calls Try.prog 46 #[.int .i64 a0, .int .i64 a1] w fun e w' => ∃ v0_ : Value, e = .returned (v0_) ∧ Kd.R (Kd.int .i64) 3 w' w.heap.size (fun _ => True) v0_ r ∧ Below w.heap.size w w' := by
  have HB := Aside0.mk (Below.refl w.heap.size w)
  have H : ((impl_rectangle.f k a0 a1).bind fun t599 => ((impl_few.f k t599).bind fun bt602 => (impl_majors.l0 k a0 a1 (([] : List Int)) bt602.1 (bt602.1.length : Int) 0))) = some r := h
  clear h
  replace H := Option.bind_eq_some_iff.mp H
  obtain ⟨t599, A30, H⟩ := H
  replace H : ((impl_few.f k t599).bind fun bt602 => (impl_majors.l0 k a0 a1 (([] : List Int)) bt602.1 (bt602.1.length : Int) 0)) = some r := H
  have A3 := Aside0.mk A30
  clear A30
  replace H := Option.bind_eq_some_iff.mp H
  obtain ⟨⟨t602, t605⟩, A40, H⟩ := H
  replace H : (impl_majors.l0 k a0 a1 (([] : List Int)) t602 (t602.length : Int) 0) = some r := H
  have A4 := Aside0.mk A40
  clear A40
  obtain ⟨y606, hy606⟩ : ∃ y_ : List Int, y_ = (([] : List Int)) := ⟨_, rfl⟩
  replace H : (impl_majors.l0 k a0 a1 y606 t602 (t602.length : Int) 0) = some r := by first | (rw [hy606]; with_reducible exact H) | (have H2_ := (Option.bind_some _ _).symm.trans H; rw [hy606]; with_reducible exact H2_) | (have H2_ := (Option.bind_some _ _).symm.trans H; with_reducible exact H2_) | with_reducible exact H | (rw [hy606]; exact H) | exact H
  have Ny606 := Aside0.mk hy606
  clear hy606
  have H' := Aside0.mk H
  clear H
  go_enter Try.func46, Try.ntmps46
  go_wp2_with (first | ((with_reducible refine gate_callee (f := 69) rfl ?_); refine goesL_ (some 14) rfl rfl Try.func69 (by kernel_rfl) rfl #[.int .i64 a0, .int .i64 a1] rfl (by (try simp only [List.map_toArray, List.map_cons, List.map_nil]); first | done | rfl | (simp only [List.length_drop, List.length_take]; rfl)) ?_; (with_reducible refine (impl_rectangle.calls k a0 a1 t599 _ A3.out).mono ?_); rintro e w5 ⟨v600, rfl, ho0, hb⟩; refine ⟨_, rfl, ?_⟩; have n0_ := Aside0.mk (Kd.R_lower ho0 (below_size (by repeat (first | (with_reducible first | exact HB.out | apply below_alloc | apply pw_below_drewN | apply below_drew1) | exact HB.out)))); have n1_ := Aside0.mk (below_step (by repeat (first | (with_reducible first | exact HB.out | apply below_alloc | apply pw_below_drewN | apply below_drew1) | exact HB.out)) hb); clear HB; have HO601 := n0_; have HB := n1_; clear n0_ n1_; (try clear hb); (try clear hb2); (try clear hk); (try clear hi); (try clear ho0); obtain ⟨Ao6, co6, eo6⟩ := Kd.R_slice HO601.out; subst eo6) | ((with_reducible refine gate_callee (f := 60) rfl ?_); refine goesL_ (some 15) rfl rfl Try.func60 (by kernel_rfl) rfl #[.agg #[.slice Ao6 t599.length co6]] rfl (by (try simp only [List.map_toArray, List.map_cons, List.map_nil]); first | done | rfl | (simp only [List.length_drop, List.length_take]; rfl)) ?_; (with_reducible refine (impl_few.calls k _ _ t599 t602 t605 _ ?side1 ?side2 A4.out).mono ?_); (case side1 => repeat (first | exact (Kd.R_reads' HO601.out).2.2 | (with_reducible refine Kd.C_alloc ?_ _) | (with_reducible refine Kd.C_drewN ?_ _) | (with_reducible refine Kd.C_drew ?_))); (case side2 => exact (Kd.R_reads' HO601.out).2.1); rintro e w7 ⟨v603, rfl, ho0, hb⟩; refine ⟨_, rfl, ?_⟩; have n0_ := Aside0.mk (Kd.R_below (by (with_reducible repeat (first | apply Kd.R_alloc | apply Kd.R_drewN | apply Kd.R_drew)); exact HO601.out) hb); have n1_ := Aside0.mk (Kd.S_lower (Kd.S_new' ho0 (Kd.R_lt (by (with_reducible repeat (first | apply Kd.R_alloc | apply Kd.R_drewN | apply Kd.R_drew)); exact HO601.out))) (below_size (by repeat (first | (with_reducible first | exact HB.out | apply below_alloc | apply pw_below_drewN | apply below_drew1) | exact HB.out)))); have n2_ := Aside0.mk (below_step (by repeat (first | (with_reducible first | exact HB.out | apply below_alloc | apply pw_below_drewN | apply below_drew1) | exact HB.out)) hb); clear HO601; clear HB; have HO601 := n0_; have HO604 := n1_; have HB := n2_; clear n0_ n1_ n2_; (try clear hb); (try clear hb2); (try clear hk); (try clear hi); (try clear ho0)) | ((with_reducible refine gate_dst (N := 18) rfl ?_); refine Kd.R_lit (Kd.int .i64) _ 3 ?hg (N := 18) ?hd (xs := ([] : List Int)) (inner := []) (ok := fun _ => True) (okp := fun _ => True) ?hr ?hp (fun _ hk => hk) trivial (Below.refl _ _) (Nat.le_refl _) (by simp) ?_; (case hd => rfl); (case hg => rfl); (case hr => first | (go_simp; done) | (go_simp; rfl)); (case hp => exact (Reps.none _ _)); intro v607 w8 ho9 hb hg_ hnew_; clear hg_ hnew_; (first | rw [← Ny606.out] at ho9 | (simp only [Int.reduceToNat] at ho9; rw [← Ny606.out] at ho9)); have n0_ := Aside0.mk (Kd.R_elder' (by (with_reducible repeat (first | apply Kd.R_alloc | apply Kd.R_drewN | apply Kd.R_drew)); exact HO601.out) (Kd.R_base ho9) hb); have n1_ := Aside0.mk (Kd.S_elder' (by (with_reducible repeat (first | apply Kd.S_alloc | apply Kd.S_drewN | apply Kd.S_drew)); exact HO604.out) (Kd.R_base ho9) hb); have n2_ := Aside0.mk (Kd.R_lower (Kd.R_new' ho9 (Kd.R_lt (by (with_reducible repeat (first | apply Kd.R_alloc | apply Kd.R_drewN | apply Kd.R_drew)); exact HO601.out))) (below_size (by repeat (first | (with_reducible first | exact HB.out | apply below_alloc | apply pw_below_drewN | apply below_drew1) | exact HB.out)))); have n3_ := Aside0.mk (below_step (by repeat (first | (with_reducible first | exact HB.out | apply below_alloc | apply pw_below_drewN | apply below_drew1) | exact HB.out)) hb); clear HO601; clear HO604; clear HB; have HO601 := n0_; have HO604 := n1_; have HO608 := n2_; have HB := n3_; clear n0_ n1_ n2_ n3_; clear hb ho9; obtain ⟨Ao10, co10, eo10⟩ := Kd.S_slice HO604.out; subst eo10))
  go_loopg [7, 21] k (fun kq v7 v21 w' => ∃ (x7_1 : List Int) (x21_1 : Int), v21 = .int .i64 x21_1 ∧ Aside0 (impl_majors.l0 kq a0 a1 x7_1 t602 (t602.length : Int) x21_1 = some r) ∧ Aside0 (kq ≤ k) ∧ Aside0 (Kd.R (Kd.int .i64) 3 w' w.heap.size (fun _ => True) v7 x7_1) ∧ Aside0 (Kd.S (Kd.slice 3 (Kd.int .i64)) 25 w' w.heap.size (fun k_ => some k_ ≠ (v7 : Value).ownBlock) (.slice Ao10 t602.length co10) t602) ∧ Aside0 (Below w.heap.size w w'))
  case atStart => exact ⟨(y606), (0), (by first | rfl | (simp; done) | (simp [*]; done)), H', ⟨Nat.le_refl _⟩, ⟨by (with_reducible repeat (first | apply Kd.R_alloc | apply Kd.R_drewN | apply Kd.R_drew)); exact Kd.R_mono HO608.out (fun _ hk => trivial)⟩, ⟨by (with_reducible repeat (first | apply Kd.S_alloc | apply Kd.S_drewN | apply Kd.S_drew)); exact Kd.S_mono HO604.out (fun _ hk => hk.2)⟩, ⟨by repeat (first | (with_reducible first | exact HB.out | apply below_alloc | apply pw_below_drewN | apply below_drew1) | exact HB.out)⟩⟩
  case round =>
    clear H'
    try clear p2
    try clear c4
    try clear c6
    obtain ⟨x7_1, x21_1, rfl, HA, HK1, HO_7, HO_19, HB⟩ := hrel
    cases gk with
    | zero => exact absurd HA.out (by simp [impl_majors.l0])
    | succ k1 =>
      have H := HA.out
      clear HA
      simp only [impl_majors.l0] at H
      by_cases c11 : x21_1 < (t602.length : Int)
      · rw [if_pos c11] at H
        have c11b0 : decide (x21_1 < (t602.length : Int)) = true := decide_eq_true c11
        clear c11
        by_cases c12 : 0 ≤ x21_1
        · rw [if_pos c12] at H
          have c12b0 : decide (0 ≤ x21_1) = true := decide_eq_true c12
          clear c12
          by_cases c13 : x21_1 < (t602.length : Int)
          · rw [if_pos c13] at H
            have c13b0 : decide (x21_1 < (t602.length : Int)) = true := decide_eq_true c13
            clear c13
            replace H := Option.bind_eq_some_iff.mp H
            obtain ⟨t610, A140, H⟩ := H
            replace H : ((impl_major.f k1 t610).bind fun t613 => (impl_majors.l1 k1 a0 a1 x7_1 t613 t602 (t602.length : Int) x21_1)) = some r := H
            have A14 := Aside0.mk A140
            clear A140
            replace H := Option.bind_eq_some_iff.mp H
            obtain ⟨t613, A150, H⟩ := H
            replace H : (impl_majors.l1 k1 a0 a1 x7_1 t613 t602 (t602.length : Int) x21_1) = some r := H
            have A15 := Aside0.mk A150
            clear A150
            have H' := Aside0.mk H
            clear H
            have p609 : 0 ≤ (x21_1 : Int) := of_decide_eq_true (by first | (with_reducible assumption) | assumption)
            have q609 : x21_1 < (t602.length : Int) := of_decide_eq_true (by first | (with_reducible assumption) | assumption)
            obtain ⟨ad609, A609_0, c609_0, e609, hx609_0, hl609_0, hi609_0⟩ := at_L1 (Kd.S_reads' HO_19.out).2.2 x21_1 p609 q609
            cases e609
            obtain ⟨ce609, hce609, hMe609, hcc609⟩ := Kd.S_get HO_19.out [] x21_1 p609 (by first | exact q609 | exact of_decide_eq_true (by first | (with_reducible assumption) | assumption) | (have e_ := (Kd.S_reads' HO_19.out).1; omega))
            obtain ⟨ve609_0, rfl, ge609_0⟩ := hMe609
            have hv609_0 := hcc609 0 _ rfl
            rw [Nat.add_zero, show ((Kd.slice 3 (Kd.int .i64))).sz = 1 from rfl, Nat.mul_one] at hv609_0
            replace hv609_0 := Option.some.inj (hv609_0.symm.trans hx609_0)
            rw [hv609_0] at ge609_0
            have HL609_0 := Aside0.mk (show Kd.R (Kd.int .i64) 3 _ _ _ _ (rd_L1 t602 x21_1) from ge609_0)
            clear hv609_0 ge609_0
            clear hcc609 hce609
            have HR609_0 := Aside0.mk hi609_0
            have HC609_0 := Aside0.mk hl609_0
            clear hi609_0 hl609_0
            replace p609 := eq_true p609
            replace q609 := eq_true q609
            go_wp2_with (first | ((with_reducible refine gate_callee (f := 71) rfl ?_); refine goesL_ (some 28) rfl rfl Try.func71 (by kernel_rfl) rfl #[.int .i64 a0, .int .i64 a1, .slice A609_0 (rd_L1 t602 x21_1).length c609_0] rfl (by (try simp only [List.map_toArray, List.map_cons, List.map_nil]); first | done | rfl | (simp only [List.length_drop, List.length_take]; rfl)) ?_; (with_reducible refine (impl_tableau.calls k1 a0 a1 _ _ (rd_L1 t602 x21_1) t610 _ ?side1 ?side2 A14.out).mono ?_); (case side1 => repeat (first | exact (by repeat (first | (with_reducible exact HR609_0.out) | (with_reducible refine Kd.C_alloc ?_ _) | (with_reducible refine Kd.C_drewN ?_ _) | (with_reducible refine Kd.C_drew ?_) | exact HR609_0.out)) | (with_reducible refine Kd.C_alloc ?_ _) | (with_reducible refine Kd.C_drewN ?_ _) | (with_reducible refine Kd.C_drew ?_))); (case side2 => exact HC609_0.out); rintro e w16 ⟨v611, rfl, ho0, hb⟩; refine ⟨_, rfl, ?_⟩; have n0_ := Aside0.mk (Kd.R_below (by (with_reducible repeat (first | apply Kd.R_alloc | apply Kd.R_drewN | apply Kd.R_drew)); exact HO_7.out) hb); have n1_ := Aside0.mk (Kd.S_elder' (by (with_reducible repeat (first | apply Kd.S_alloc | apply Kd.S_drewN | apply Kd.S_drew)); exact HO_19.out) (Kd.S_base ho0) hb); have n2_ := Aside0.mk (Kd.R_below (by (with_reducible repeat (first | apply Kd.R_alloc | apply Kd.R_drewN | apply Kd.R_drew)); exact HL609_0.out) hb); have n3_ := Aside0.mk (Kd.S_lower (Kd.S_new' (Kd.S_new' (Kd.S_new' ho0 (Kd.R_lt (by (with_reducible repeat (first | apply Kd.R_alloc | apply Kd.R_drewN | apply Kd.R_drew)); exact HO_7.out))) (Kd.S_lt (by (with_reducible repeat (first | apply Kd.S_alloc | apply Kd.S_drewN | apply Kd.S_drew)); exact HO_19.out))) (Kd.R_lt (by (with_reducible repeat (first | apply Kd.R_alloc | apply Kd.R_drewN | apply Kd.R_drew)); exact HL609_0.out))) (below_size (by repeat (first | (with_reducible first | exact HB.out | apply below_alloc | apply pw_below_drewN | apply below_drew1) | exact HB.out)))); have n4_ := Aside0.mk (Kd.C_below (by repeat (first | (with_reducible exact HR609_0.out) | (with_reducible refine Kd.C_alloc ?_ _) | (with_reducible refine Kd.C_drewN ?_ _) | (with_reducible refine Kd.C_drew ?_) | exact HR609_0.out)) hb); have n5_ := Aside0.mk (below_step (by repeat (first | (with_reducible first | exact HB.out | apply below_alloc | apply pw_below_drewN | apply below_drew1) | exact HB.out)) hb); clear HO_7; clear HO_19; clear HL609_0; clear HR609_0; clear HB; have HO_7 := n0_; have HO_19 := n1_; have HL609_0 := n2_; have HO612 := n3_; have HR609_0 := n4_; have HB := n5_; clear n0_ n1_ n2_ n3_ n4_ n5_; (try clear hb); (try clear hb2); (try clear hk); (try clear hi); (try clear ho0); obtain ⟨Ao17, co17, eo17⟩ := Kd.S_slice HO612.out; subst eo17) | ((with_reducible refine gate_callee (f := 70) rfl ?_); refine goesL_ (some 29) rfl rfl Try.func70 (by kernel_rfl) rfl #[.slice Ao17 t610.length co17] rfl (by (try simp only [List.map_toArray, List.map_cons, List.map_nil]); first | done | rfl | (simp only [List.length_drop, List.length_take]; rfl)) ?_; (with_reducible refine (impl_major.calls k1 _ _ t610 t613 _ ?side1 ?side2 A15.out).mono ?_); (case side1 => repeat (first | exact (Kd.S_reads' HO612.out).2.2 | (with_reducible refine Kd.C_alloc ?_ _) | (with_reducible refine Kd.C_drewN ?_ _) | (with_reducible refine Kd.C_drew ?_))); (case side2 => exact (Kd.S_reads' HO612.out).2.1); rintro e w18 ⟨rfl, hb⟩; refine ⟨_, rfl, ?_⟩; have n0_ := Aside0.mk (Kd.R_below (by (with_reducible repeat (first | apply Kd.R_alloc | apply Kd.R_drewN | apply Kd.R_drew)); exact HO_7.out) hb); have n1_ := Aside0.mk (Kd.S_below (by (with_reducible repeat (first | apply Kd.S_alloc | apply Kd.S_drewN | apply Kd.S_drew)); exact HO_19.out) hb); have n2_ := Aside0.mk (Kd.R_below (by (with_reducible repeat (first | apply Kd.R_alloc | apply Kd.R_drewN | apply Kd.R_drew)); exact HL609_0.out) hb); have n3_ := Aside0.mk (Kd.S_below (by (with_reducible repeat (first | apply Kd.S_alloc | apply Kd.S_drewN | apply Kd.S_drew)); exact HO612.out) hb); have n4_ := Aside0.mk (Kd.C_below (by repeat (first | (with_reducible exact HR609_0.out) | (with_reducible refine Kd.C_alloc ?_ _) | (with_reducible refine Kd.C_drewN ?_ _) | (with_reducible refine Kd.C_drew ?_) | exact HR609_0.out)) hb); have n5_ := Aside0.mk (below_step (by repeat (first | (with_reducible first | exact HB.out | apply below_alloc | apply pw_below_drewN | apply below_drew1) | exact HB.out)) hb); clear HO_7; clear HO_19; clear HL609_0; clear HO612; clear HR609_0; clear HB; have HO_7 := n0_; have HO_19 := n1_; have HL609_0 := n2_; have HO612 := n3_; have HR609_0 := n4_; have HB := n5_; clear n0_ n1_ n2_ n3_ n4_ n5_; (try clear hb); (try clear hb2); (try clear hk); (try clear hi)))
            go_loopg [7] k1 (fun kq v7 w' => ∃ (x7_2 : List Int), Aside0 (impl_majors.l1 kq a0 a1 x7_2 t613 t602 (t602.length : Int) x21_1 = some r) ∧ Aside0 (kq ≤ k1) ∧ Aside0 (Kd.R (Kd.int .i64) 3 w' w.heap.size (fun _ => True) v7 x7_2) ∧ Aside0 (Kd.S (Kd.slice 3 (Kd.int .i64)) 25 w' w.heap.size (fun k_ => some k_ ≠ (v7 : Value).ownBlock) (.slice (some ad609) t602.length co10) t602) ∧ Aside0 (Below w.heap.size w w'))
            case atStart => exact ⟨(x7_1), H', ⟨Nat.le_refl _⟩, ⟨by (with_reducible repeat (first | apply Kd.R_alloc | apply Kd.R_drewN | apply Kd.R_drew)); exact HO_7.out⟩, ⟨by (with_reducible repeat (first | apply Kd.S_alloc | apply Kd.S_drewN | apply Kd.S_drew)); exact Kd.S_mono HO_19.out (fun _ hk => hk.1)⟩, ⟨by repeat (first | (with_reducible first | exact HB.out | apply below_alloc | apply pw_below_drewN | apply below_drew1) | exact HB.out)⟩⟩
            case round =>
              clear H'
              try clear c1
              try clear p2
              try clear c4
              try clear c6
              try clear p6
              try clear q6
              try clear hx6
              try clear c7
              try clear c11
              try clear c11b0
              try clear c12
              try clear c12b0
              try clear c13
              try clear c13b0
              try clear hx609_0
              try clear p2
              try clear p609
              try clear q609
              obtain ⟨x7_2, HA, HK2, HO_7, HO_19, HB⟩ := hrel
              cases gk with
              | zero => exact absurd HA.out (by simp [impl_majors.l1])
              | succ k2 =>
                have H := HA.out
                clear HA
                simp only [impl_majors.l1] at H
                by_cases c19 : (x7_2.length : Int) ≤ t613
                · rw [if_pos c19] at H
                  have c19b0 : decide ((x7_2.length : Int) ≤ t613) = true := decide_eq_true c19
                  clear c19
                  by_cases c20 : x7_2.length < 17592186044416
                  · rw [if_pos c20] at H
                    have LMc20 := Aside0.mk c20
                    clear c20
                    obtain ⟨y614, hy614⟩ : ∃ y_ : List Int, y_ = (x7_2 ++ [0]) := ⟨_, rfl⟩
                    replace H : (impl_majors.l1 k2 a0 a1 y614 t613 t602 (t602.length : Int) x21_1) = some r := by first | (rw [hy614]; with_reducible exact H) | (have H2_ := (Option.bind_some _ _).symm.trans H; rw [hy614]; with_reducible exact H2_) | (have H2_ := (Option.bind_some _ _).symm.trans H; with_reducible exact H2_) | with_reducible exact H | (rw [hy614]; exact H) | exact H
                    have Ny614 := Aside0.mk hy614
                    clear hy614
                    have H' := Aside0.mk H
                    clear H
                    obtain ⟨Ao21, co21, eo21⟩ := Kd.R_slice HO_7.out
                    subst eo21
                    go_wp2_with (first | ((with_reducible refine gate_builtin (b := .append) (xs := #[.tmp 34, .tmp 35]) rfl ?_); at_builtin; refine Kd.R_append (Kd.int .i64) (w0 := w) w.heap.size rfl (.tmp 34) (.tmp 35) 25 3 (.int .i64 0) 8 rfl Try.underlying25 info3 rfl (by decide) (by omega) (.slice Ao21 x7_2.length co21) x7_2 0 [.int .i64 0] (fun _ => True) (fun _ => False) rfl rfl ?aP (fun _ hk => hk.elim) ?aF ?aO ?aB ?aS ?aL ?_; (case aP => exact rfl); (case aB => exact (by repeat (first | (with_reducible first | exact HB.out | apply below_alloc | apply pw_below_drewN | apply below_drew1) | exact HB.out))); (case aF => exact (fun _ _ => trivial)); (case aO => exact (by (with_reducible repeat (first | apply Kd.R_alloc | apply Kd.R_drewN | apply Kd.R_drew)); exact HO_7.out)); (case aS => exact (below_size (by repeat (first | (with_reducible first | exact HB.out | apply below_alloc | apply pw_below_drewN | apply below_drew1) | exact HB.out)))); (case aL => have := LMc20.out; omega); intro v615 w22 ho hb hg hat; rw [← Ny614.out] at ho; have n0_ := Aside0.mk (Kd.S_after (ok := (fun _ => True)) (by (with_reducible repeat (first | apply Kd.S_alloc | apply Kd.S_drewN | apply Kd.S_drew)); exact Kd.S_mono HO_19.out (fun _ hk => ⟨trivial, hk⟩)) hg hat); have n1_ := Aside0.mk (hb); have n2_ := Aside0.mk (ho); clear HO_19; clear HB; clear HO_7; have HO_19 := n0_; have HB := n1_; have HO616 := n2_; clear n0_ n1_ n2_; clear ho hb hg hat))
                    go_roundg k2
                    case measure => have := HK1.out; have := HK2.out; omega
                    case rel => exact ⟨(y614), H', ⟨by have := HK1.out; have := HK2.out; omega⟩, ⟨by (with_reducible repeat (first | apply Kd.R_alloc | apply Kd.R_drewN | apply Kd.R_drew)); exact HO616.out⟩, ⟨by (with_reducible repeat (first | apply Kd.S_alloc | apply Kd.S_drewN | apply Kd.S_drew)); exact Kd.S_mono HO_19.out (fun _ hk => hk.2)⟩, ⟨by repeat (first | (with_reducible first | exact HB.out | apply below_alloc | apply pw_below_drewN | apply below_drew1) | exact HB.out)⟩⟩
                  · rw [if_neg c20] at H
                    exact absurd H (by simp)
                · rw [if_neg c19] at H
                  have c19b0 : decide ((x7_2.length : Int) ≤ t613) = false := decide_eq_false c19
                  clear c19
                  by_cases c23 : 0 ≤ t613
                  · rw [if_pos c23] at H
                    have c23b0 : decide (0 ≤ t613) = true := decide_eq_true c23
                    clear c23
                    by_cases c24 : t613 < (x7_2.length : Int)
                    · rw [if_pos c24] at H
                      have c24b0 : decide (t613 < (x7_2.length : Int)) = true := decide_eq_true c24
                      clear c24
                      obtain ⟨y618, hy618⟩ : ∃ y_ : List Int, y_ = (x7_2.set (t613 : Int).toNat (wrap64 ((rd x7_2 t613) + 1))) := ⟨_, rfl⟩
                      replace H : (impl_majors.l0 k2 a0 a1 y618 t602 (t602.length : Int) (wrap64 (x21_1 + 1))) = some r := by first | (rw [hy618]; with_reducible exact H) | (have H2_ := (Option.bind_some _ _).symm.trans H; rw [hy618]; with_reducible exact H2_) | (have H2_ := (Option.bind_some _ _).symm.trans H; with_reducible exact H2_) | with_reducible exact H | (rw [hy618]; exact H) | exact H
                      have Ny618 := Aside0.mk hy618
                      clear hy618
                      have H' := Aside0.mk H
                      clear H
                      obtain ⟨Ao26, co26, eo26⟩ := Kd.R_slice HO_7.out
                      subst eo26
                      have p617 : 0 ≤ (t613 : Int) := of_decide_eq_true (by first | (with_reducible assumption) | assumption)
                      have q617 : t613 < (x7_2.length : Int) := of_decide_eq_true (by first | (with_reducible assumption) | assumption)
                      obtain ⟨ad617, e617, hx617_0⟩ := Kd.at_int (Kd.R_reads' HO_7.out).2.2 t613 p617 q617
                      cases e617
                      replace p617 := eq_true p617
                      replace q617 := eq_true q617
                      have p25 : 0 ≤ (t613 : Int) := of_decide_eq_true (by first | (with_reducible assumption) | assumption)
                      have q25 : (t613 : Int) < ((x7_2.length : Int) : Int) := of_decide_eq_true (by first | (with_reducible assumption) | assumption)
                      obtain ⟨go25, co25, eo25, gb25, gl25, cl25, HG25⟩ := Kd.R_form HO_7.out (by omega)
                      (first | cases eo25 | (injection eo25 with ea_ en_ ec_; (first | subst ea_ | (injection ea_ with ea_; subst ea_)); subst ec_; clear en_))
                      have GB25 := Aside0.mk gb25
                      have GG25 := Aside0.mk HG25
                      clear gb25 gl25 HG25
                      (first | simp only [add_plain] at hx617_0 | skip)
                      obtain ⟨hx25_0, hf25_0⟩ := Kd.R_celln 0 HO_7.out (t613 : Int) p25 q25
                      replace p25 := eq_true p25
                      replace q25 := eq_true q25
                      have HP27 := Kd.R_putg HO_7.out (t613 : Int) (wrap64 ((rd x7_2 t613) + 1))
                      go_wp2_with (first | ((with_reducible refine gate_store (t := 3) (p := 42) rfl ?_); refine store_event (t := 3) (p := 42) (v := ?vo_w28) (w1 := (wr.setCell ⟨go25, (t613 : Int).toNat, none⟩ (.int .i64 (wrap64 ((rd x7_2 t613) + 1))))) ?hg ?ho ?hn ?hr ?_; (case ho => rfl); (case hg => rfl); (case hn => rfl); (case hr => first | (go_simp; done) | (go_simp; rfl) | (obtain ⟨Av_, cv_, ev_⟩ := Kd.R_slice HO601.out; subst ev_; go_simp; done) | (obtain ⟨Av_, cv_, ev_⟩ := Kd.R_slice HO601.out; subst ev_; go_simp; rfl) | (obtain ⟨Av_, cv_, ev_⟩ := Kd.R_slice HO604.out; subst ev_; go_simp; done) | (obtain ⟨Av_, cv_, ev_⟩ := Kd.R_slice HO604.out; subst ev_; go_simp; rfl) | (obtain ⟨Av_, cv_, ev_⟩ := Kd.R_slice HO608.out; subst ev_; go_simp; done) | (obtain ⟨Av_, cv_, ev_⟩ := Kd.R_slice HO608.out; subst ev_; go_simp; rfl) | (obtain ⟨Av_, cv_, ev_⟩ := Kd.R_slice HO612.out; subst ev_; go_simp; done) | (obtain ⟨Av_, cv_, ev_⟩ := Kd.R_slice HO612.out; subst ev_; go_simp; rfl) | (obtain ⟨Av_, cv_, ev_⟩ := Kd.R_slice HO616.out; subst ev_; go_simp; done) | (obtain ⟨Av_, cv_, ev_⟩ := Kd.R_slice HO616.out; subst ev_; go_simp; rfl)); intro w28 hw; have hg : wr.grownBy w28 (some go25) := (by rw [hw]; exact HP27.2); have hp_ : Kd.R (Kd.int .i64) 3 w28 w.heap.size (fun _ => True) (.slice (some ⟨go25, 0, none⟩) x7_2.length co26) y618 := (by rw [hw, Ny618.out]; exact HP27.1); clear HP27; have n0_ := Aside0.mk (hp_); have n1_ := Aside0.mk (Kd.S_after (v := (.slice (some ⟨go25, 0, none⟩) x7_2.length co26)) (v1 := (.slice (some ⟨go25, 0, none⟩) x7_2.length co26)) (ok := (fun _ => True)) (by (with_reducible repeat (first | apply Kd.S_alloc | apply Kd.S_drewN | apply Kd.S_drew)); exact Kd.S_mono HO_19.out (fun _ hk => ⟨trivial, hk⟩)) hg (.inl rfl)); have n2_ := Aside0.mk ((by rw [hw]; exact below_set (HB.out) GB25.out : Below w.heap.size w w28)); clear HO_7; clear HO_19; clear HB; have HO_7 := n0_; have HO_19 := n1_; have HB := n2_; clear n0_ n1_ n2_; clear hg hw hp_))
                      go_roundg k2
                      case measure => have := HK1.out; have := HK2.out; omega
                      case rel => exact ⟨(y618), (wrap64 (x21_1 + 1)), (by first | rfl | (simp; done) | (simp [*]; done)), H', ⟨by have := HK1.out; have := HK2.out; omega⟩, ⟨by (with_reducible repeat (first | apply Kd.R_alloc | apply Kd.R_drewN | apply Kd.R_drew)); exact HO_7.out⟩, ⟨by (with_reducible repeat (first | apply Kd.S_alloc | apply Kd.S_drewN | apply Kd.S_drew)); exact Kd.S_mono HO_19.out (fun _ hk => hk.2)⟩, ⟨by repeat (first | (with_reducible first | exact HB.out | apply below_alloc | apply pw_below_drewN | apply below_drew1) | exact HB.out)⟩⟩
                    · rw [if_neg c24] at H
                      exact absurd H (by simp)
                  · rw [if_neg c23] at H
                    exact absurd H (by simp)
          · rw [if_neg c13] at H
            exact absurd H (by simp)
        · rw [if_neg c12] at H
          exact absurd H (by simp)
      · rw [if_neg c11] at H
        have c11b0 : decide (x21_1 < (t602.length : Int)) = false := decide_eq_false c11
        clear c11
        obtain rfl := Option.some.inj H
        go_wp2
        go_ret
        exact ⟨_, by first | rfl | (simp [errW_none, errW_some] <;> rfl) | (simp [*, errW_none, errW_some] <;> rfl), by (with_reducible repeat (first | apply Kd.R_alloc | apply Kd.R_drewN | apply Kd.R_drew)); exact HO_7.out, by repeat (first | (with_reducible first | exact HB.out | apply below_alloc | apply pw_below_drewN | apply below_drew1) | exact HB.out)⟩

end Go.Proofs.Ytnihjpnheooeoaa.F
end

section
namespace Go.Proofs.Ytnihjpnheooeoaa.F
open Go.RowKit Go.Proofs.YtnihjpnheooeoaaW.PrintWords Go.Proofs.YtnihjpnheooeoaaW.PrintLast Go.Proofs.YtnihjpnheooeoaaW.PrintMore
attribute [local go_sem] max2_int min2_int max_two min_two max_three min_three max_four min_four
set_option linter.unusedVariables false
set_option linter.unusedSimpArgs false

/-! ### impl_MajorTable: function 21 -/
def impl_MajorTable.f (k : Nat) (a0 : Int) (a1 : Int) : Option (List Int × Bool) := (impl_areSides.f a0 a1 10).bind fun t619 => (if t619 = true then ((impl_majors.f k a0 a1).bind fun t620 => (some (t620, true))) else (some (([] : List Int), false)))
theorem impl_MajorTable.mono : ∀ a0 a1 k, LeO (impl_MajorTable.f k a0 a1) (impl_MajorTable.f (k + 1) a0 a1) := by
  intro a0 a1 k
  unfold impl_MajorTable.f
  repeat' first
      | (with_reducible exact impl_majors.mono _ _ _)
      | (with_reducible exact LeO.refl _)
      | (with_reducible exact LeO.none _)
      | (with_reducible refine LeO.ite ?_ ?_)
      | (with_reducible refine LeO.bind ?_ (fun _ => ?_))
      | exact impl_majors.mono _ _ _
      | exact LeO.none _
      | refine LeO.ite ?_ ?_
      | refine LeO.bind ?_ (fun _ => ?_)
set_option maxHeartbeats 8000000 in
set_option maxRecDepth 100000 in
theorem impl_MajorTable.calls (k : Nat) (a0 : Int) (a1 : Int) (r1 : List Int) (r2 : Bool) (w : World) (h : impl_MajorTable.f k a0 a1 = some (r1, r2)) :
    Calls Try.prog 21 #[.int .i64 a0, .int .i64 a1] w fun e w' => ∃ v0_ : Value, e = .returned (.tuple #[v0_, .bool r2]) ∧ Kd.R (Kd.int .i64) 3 w' w.heap.size (fun _ => True) v0_ r1 ∧ Below w.heap.size w w' := by
  have HB := Aside0.mk (Below.refl w.heap.size w)
  have H : ((impl_areSides.f a0 a1 10).bind fun t619 => (if t619 = true then ((impl_majors.f k a0 a1).bind fun t620 => (some (t620, true))) else (some (([] : List Int), false)))) = some (r1, r2) := h
  clear h
  replace H := Option.bind_eq_some_iff.mp H
  obtain ⟨t619, A30, H⟩ := H
  replace H : (if t619 = true then ((impl_majors.f k a0 a1).bind fun t620 => (some (t620, true))) else (some (([] : List Int), false))) = some (r1, r2) := H
  have A3 := Aside0.mk A30
  clear A30
  by_cases c4 : t619 = true
  · subst c4
    have H1 : ((impl_majors.f k a0 a1).bind fun t620 => (some (t620, true))) = some (r1, r2) := by rw [if_pos rfl] at H; exact H
    clear H
    have H := H1
    clear H1
    replace H := Option.bind_eq_some_iff.mp H
    obtain ⟨t620, A50, H⟩ := H
    replace H : (some (t620, true)) = some (r1, r2) := H
    have A5 := Aside0.mk A50
    clear A50
    simp only [Option.some.injEq, Prod.mk.injEq] at H
    obtain ⟨rfl, rfl⟩ := H
    go_enter Try.func21, Try.ntmps21
    go_wp2_with (first | ((with_reducible refine gate_callee (f := 45) rfl ?_); refine goesL_ (some 8) rfl rfl Try.func45 (by kernel_rfl) rfl #[.int .i64 a0, .int .i64 a1, .int .i64 10] rfl (by (try simp only [List.map_toArray, List.map_cons, List.map_nil]); first | done | rfl | (simp only [List.length_drop, List.length_take]; rfl)) ?_; (with_reducible refine (impl_areSides.calls a0 a1 10 true _ A3.out).mono ?_); rintro e w' ⟨rfl, ⟨nd, rfl⟩⟩; refine ⟨_, rfl, ?_⟩) | ((with_reducible refine gate_callee (f := 46) rfl ?_); refine goesL_ (some 12) rfl rfl Try.func46 (by kernel_rfl) rfl #[.int .i64 a0, .int .i64 a1] rfl (by (try simp only [List.map_toArray, List.map_cons, List.map_nil]); first | done | rfl | (simp only [List.length_drop, List.length_take]; rfl)) ?_; (with_reducible refine (impl_majors.calls k a0 a1 t620 _ A5.out).mono ?_); rintro e w6 ⟨v621, rfl, ho0, hb⟩; refine ⟨_, rfl, ?_⟩; have n0_ := Aside0.mk (Kd.R_lower ho0 (below_size (by repeat (first | (with_reducible first | exact HB.out | apply below_alloc | apply pw_below_drewN | apply below_drew1) | exact HB.out)))); have n1_ := Aside0.mk (below_step (by repeat (first | (with_reducible first | exact HB.out | apply below_alloc | apply pw_below_drewN | apply below_drew1) | exact HB.out)) hb); clear HB; have HO622 := n0_; have HB := n1_; clear n0_ n1_; (try clear hb); (try clear hb2); (try clear hk); (try clear hi); (try clear ho0)))
    go_ret2
    exact ⟨_, by first | rfl | (simp [errW_none, errW_some] <;> rfl) | (simp [*, errW_none, errW_some] <;> rfl), by (with_reducible repeat (first | apply Kd.R_alloc | apply Kd.R_drewN | apply Kd.R_drew)); exact HO622.out, by repeat (first | (with_reducible first | exact HB.out | apply below_alloc | apply pw_below_drewN | apply below_drew1) | exact HB.out)⟩
  · replace c4 := Bool.eq_false_iff.mpr c4
    subst c4
    have H1 : (some (([] : List Int), false)) = some (r1, r2) := by rw [if_neg (show ¬ (false = true) by decide)] at H; exact H
    clear H
    have H := H1
    clear H1
    simp only [Option.some.injEq, Prod.mk.injEq] at H
    obtain ⟨rfl, rfl⟩ := H
    go_enter Try.func21, Try.ntmps21
    go_wp2_with (first | ((with_reducible refine gate_callee (f := 45) rfl ?_); refine goesL_ (some 8) rfl rfl Try.func45 (by kernel_rfl) rfl #[.int .i64 a0, .int .i64 a1, .int .i64 10] rfl (by (try simp only [List.map_toArray, List.map_cons, List.map_nil]); first | done | rfl | (simp only [List.length_drop, List.length_take]; rfl)) ?_; (with_reducible refine (impl_areSides.calls a0 a1 10 false _ A3.out).mono ?_); rintro e w' ⟨rfl, ⟨nd, rfl⟩⟩; refine ⟨_, rfl, ?_⟩))
    go_ret2
    exact ⟨_, by first | rfl | (simp [errW_none, errW_some] <;> rfl) | (simp [*, errW_none, errW_some] <;> rfl), by first | exact Kd.R_nil _ _ _ _ _ | exact Kd.N_nil _ _ _ _ _ | exact Kd.V_nil _ _ _ _ _ | exact Kd.Q_nil _ _ _ _ _ | exact Kd.S_nil _ _ _ _ _, by repeat (first | (with_reducible first | exact HB.out | apply below_alloc | apply pw_below_drewN | apply below_drew1) | exact HB.out)⟩

end Go.Proofs.Ytnihjpnheooeoaa.F
end

section
namespace Go.Proofs.Ytnihjpnheooeoaa.F
open Go.RowKit Go.Proofs.YtnihjpnheooeoaaW.PrintWords Go.Proofs.YtnihjpnheooeoaaW.PrintLast Go.Proofs.YtnihjpnheooeoaaW.PrintMore
attribute [local go_sem] max2_int min2_int max_two min_two max_three min_three max_four min_four
set_option linter.unusedVariables false
set_option linter.unusedSimpArgs false

/-! ### laws_FnExactMajorTable: function 6 -/
mutual
def laws_FnExactMajorTable.j0 : Nat → Int → Int → List Int → Bool → List Int → Bool → Option (Bool)
  | 0, _, _, _, _, _, _ => none
  | k + 1, x0, x1, x5, x6, x7, x33 => if x33 = true then (some false) else ((laws_markIntS.f k x7 1).bind fun bt632 => ((laws_heldIntS.f k bt632.2 1).bind fun t634 => (if t634 < 0 then (some false) else (if t634 = bt632.1 then ((impl_MajorTable.f k x0 x1).bind fun bt635 => ((laws_eqIntS.f k bt635.1 x5).bind fun t639 => (if t639 = true then (laws_FnExactMajorTable.j1 k bt632.2 bt632.1 (bt635.2 != x6)) else (laws_FnExactMajorTable.j1 k bt632.2 bt632.1 true)))) else (some false)))))
def laws_FnExactMajorTable.j1 : Nat → List Int → Int → Bool → Option (Bool)
  | 0, _, _, _ => none
  | k + 1, x7, x9, x59 => if x59 = true then (some false) else ((laws_heldIntS.f k x7 1).bind fun t640 => (if t640 < 0 then (some false) else (if t640 = x9 then (some true) else (some false))))
end
def laws_FnExactMajorTable.f (k : Nat) (a0 : Int) (a1 : Int) : Option (Bool) := (spec_MajorTable.f k a0 a1).bind fun bt623 => ((impl_MajorTable.f k a0 a1).bind fun bt627 => ((laws_eqIntS.f k bt627.1 bt623.1).bind fun t631 => (if t631 = true then (laws_FnExactMajorTable.j0 k a0 a1 bt623.1 bt623.2 bt627.1 (bt627.2 != bt623.2)) else (laws_FnExactMajorTable.j0 k a0 a1 bt623.1 bt623.2 bt627.1 true))))
theorem laws_FnExactMajorTable.mono_l : ∀ k, (∀ y0 y1 y2 y3 y4 y5, LeO (laws_FnExactMajorTable.j0 k y0 y1 y2 y3 y4 y5) (laws_FnExactMajorTable.j0 (k + 1) y0 y1 y2 y3 y4 y5)) ∧ (∀ y0 y1 y2, LeO (laws_FnExactMajorTable.j1 k y0 y1 y2) (laws_FnExactMajorTable.j1 (k + 1) y0 y1 y2))
  | 0 => ⟨fun _ _ _ _ _ _ r h => by simp [laws_FnExactMajorTable.j0] at h, fun _ _ _ r h => by simp [laws_FnExactMajorTable.j1] at h⟩
  | k + 1 => by
    obtain ⟨ih0, ih1⟩ := laws_FnExactMajorTable.mono_l k
    refine ⟨?_, ?_⟩
    · intro y0 y1 y2 y3 y4 y5
      unfold laws_FnExactMajorTable.j0
      repeat' first
      | (with_reducible exact ih0 _ _ _ _ _ _)
      | (with_reducible exact ih1 _ _ _)
      | (with_reducible exact impl_MajorTable.mono _ _ _)
      | (with_reducible exact laws_eqIntS.mono _ _ _)
      | (with_reducible exact laws_heldIntS.mono _ _ _)
      | (with_reducible exact laws_markIntS.mono _ _ _)
      | (with_reducible exact spec_MajorTable.mono _ _ _)
      | (with_reducible exact LeO.refl _)
      | (with_reducible exact LeO.none _)
      | (with_reducible refine LeO.ite ?_ ?_)
      | (with_reducible refine LeO.bind ?_ (fun _ => ?_))
      | exact ih0 _ _ _ _ _ _
      | exact ih1 _ _ _
      | exact impl_MajorTable.mono _ _ _
      | exact laws_eqIntS.mono _ _ _
      | exact laws_heldIntS.mono _ _ _
      | exact laws_markIntS.mono _ _ _
      | exact spec_MajorTable.mono _ _ _
      | exact LeO.none _
      | refine LeO.ite ?_ ?_
      | refine LeO.bind ?_ (fun _ => ?_)
    · intro y0 y1 y2
      unfold laws_FnExactMajorTable.j1
      repeat' first
      | (with_reducible exact ih0 _ _ _ _ _ _)
      | (with_reducible exact ih1 _ _ _)
      | (with_reducible exact impl_MajorTable.mono _ _ _)
      | (with_reducible exact laws_eqIntS.mono _ _ _)
      | (with_reducible exact laws_heldIntS.mono _ _ _)
      | (with_reducible exact laws_markIntS.mono _ _ _)
      | (with_reducible exact spec_MajorTable.mono _ _ _)
      | (with_reducible exact LeO.refl _)
      | (with_reducible exact LeO.none _)
      | (with_reducible refine LeO.ite ?_ ?_)
      | (with_reducible refine LeO.bind ?_ (fun _ => ?_))
      | exact ih0 _ _ _ _ _ _
      | exact ih1 _ _ _
      | exact impl_MajorTable.mono _ _ _
      | exact laws_eqIntS.mono _ _ _
      | exact laws_heldIntS.mono _ _ _
      | exact laws_markIntS.mono _ _ _
      | exact spec_MajorTable.mono _ _ _
      | exact LeO.none _
      | refine LeO.ite ?_ ?_
      | refine LeO.bind ?_ (fun _ => ?_)
theorem laws_FnExactMajorTable.mono : ∀ a0 a1 k, LeO (laws_FnExactMajorTable.f k a0 a1) (laws_FnExactMajorTable.f (k + 1) a0 a1) := by
  intro a0 a1 k
  obtain ⟨ih0, ih1⟩ := laws_FnExactMajorTable.mono_l k
  unfold laws_FnExactMajorTable.f
  repeat' first
      | (with_reducible exact ih0 _ _ _ _ _ _)
      | (with_reducible exact ih1 _ _ _)
      | (with_reducible exact impl_MajorTable.mono _ _ _)
      | (with_reducible exact laws_eqIntS.mono _ _ _)
      | (with_reducible exact laws_heldIntS.mono _ _ _)
      | (with_reducible exact laws_markIntS.mono _ _ _)
      | (with_reducible exact spec_MajorTable.mono _ _ _)
      | (with_reducible exact LeO.refl _)
      | (with_reducible exact LeO.none _)
      | (with_reducible refine LeO.ite ?_ ?_)
      | (with_reducible refine LeO.bind ?_ (fun _ => ?_))
      | exact ih0 _ _ _ _ _ _
      | exact ih1 _ _ _
      | exact impl_MajorTable.mono _ _ _
      | exact laws_eqIntS.mono _ _ _
      | exact laws_heldIntS.mono _ _ _
      | exact laws_markIntS.mono _ _ _
      | exact spec_MajorTable.mono _ _ _
      | exact LeO.none _
      | refine LeO.ite ?_ ?_
      | refine LeO.bind ?_ (fun _ => ?_)
set_option maxHeartbeats 8000000 in
set_option maxRecDepth 100000 in
theorem laws_FnExactMajorTable.calls (k : Nat) (a0 : Int) (a1 : Int) (r : Bool) (w : World) (h : laws_FnExactMajorTable.f k a0 a1 = some r) :
    Calls Try.prog 6 #[.int .i64 a0, .int .i64 a1] w fun e w' => e = .returned (.bool r) ∧ Below w.heap.size w w' := by
  have HB := Aside0.mk (Below.refl w.heap.size w)
  have H : ((spec_MajorTable.f k a0 a1).bind fun bt623 => ((impl_MajorTable.f k a0 a1).bind fun bt627 => ((laws_eqIntS.f k bt627.1 bt623.1).bind fun t631 => (if t631 = true then (laws_FnExactMajorTable.j0 k a0 a1 bt623.1 bt623.2 bt627.1 (bt627.2 != bt623.2)) else (laws_FnExactMajorTable.j0 k a0 a1 bt623.1 bt623.2 bt627.1 true))))) = some r := h
  clear h
  replace H := Option.bind_eq_some_iff.mp H
  obtain ⟨⟨t623, t624⟩, A30, H⟩ := H
  replace H : ((impl_MajorTable.f k a0 a1).bind fun bt627 => ((laws_eqIntS.f k bt627.1 t623).bind fun t631 => (if t631 = true then (laws_FnExactMajorTable.j0 k a0 a1 t623 t624 bt627.1 (bt627.2 != t624)) else (laws_FnExactMajorTable.j0 k a0 a1 t623 t624 bt627.1 true)))) = some r := H
  have A3 := Aside0.mk A30
  clear A30
  replace H := Option.bind_eq_some_iff.mp H
  obtain ⟨⟨t627, t628⟩, A40, H⟩ := H
  replace H : ((laws_eqIntS.f k t627 t623).bind fun t631 => (if t631 = true then (laws_FnExactMajorTable.j0 k a0 a1 t623 t624 t627 (t628 != t624)) else (laws_FnExactMajorTable.j0 k a0 a1 t623 t624 t627 true))) = some r := H
  have A4 := Aside0.mk A40
  clear A40
  have HC5 := Aside0.mk H
  clear H
  go_enter Try.func6, Try.ntmps6
  go_upto_region 3 with (first | ((with_reducible refine gate_callee (f := 20) rfl ?_); refine goesL_ (some 16) rfl rfl Try.func20 (by kernel_rfl) rfl #[.int .i64 a0, .int .i64 a1] rfl (by (try simp only [List.map_toArray, List.map_cons, List.map_nil]); first | done | rfl | (simp only [List.length_drop, List.length_take]; rfl)) ?_; (with_reducible refine (spec_MajorTable.calls k a0 a1 t623 t624 _ A3.out).mono ?_); rintro e w6 ⟨v625, rfl, ho0, hb⟩; refine ⟨_, rfl, ?_⟩; have n0_ := Aside0.mk (Kd.R_lower ho0 (below_size (by repeat (first | (with_reducible first | exact HB.out | apply below_alloc | apply pw_below_drewN | apply below_drew1) | exact HB.out)))); have n1_ := Aside0.mk (below_step (by repeat (first | (with_reducible first | exact HB.out | apply below_alloc | apply pw_below_drewN | apply below_drew1) | exact HB.out)) hb); clear HB; have HO626 := n0_; have HB := n1_; clear n0_ n1_; (try clear hb); (try clear hb2); (try clear hk); (try clear hi); (try clear ho0)) | ((with_reducible refine gate_callee (f := 21) rfl ?_); refine goesL_ (some 22) rfl rfl Try.func21 (by kernel_rfl) rfl #[.int .i64 a0, .int .i64 a1] rfl (by (try simp only [List.map_toArray, List.map_cons, List.map_nil]); first | done | rfl | (simp only [List.length_drop, List.length_take]; rfl)) ?_; (with_reducible refine (impl_MajorTable.calls k a0 a1 t627 t628 _ A4.out).mono ?_); rintro e w7 ⟨v629, rfl, ho0, hb⟩; refine ⟨_, rfl, ?_⟩; have n0_ := Aside0.mk (Kd.R_elder' (by (with_reducible repeat (first | apply Kd.R_alloc | apply Kd.R_drewN | apply Kd.R_drew)); exact HO626.out) (Kd.R_base ho0) hb); have n1_ := Aside0.mk (Kd.R_lower (Kd.R_new' ho0 (Kd.R_lt (by (with_reducible repeat (first | apply Kd.R_alloc | apply Kd.R_drewN | apply Kd.R_drew)); exact HO626.out))) (below_size (by repeat (first | (with_reducible first | exact HB.out | apply below_alloc | apply pw_below_drewN | apply below_drew1) | exact HB.out)))); have n2_ := Aside0.mk (below_step (by repeat (first | (with_reducible first | exact HB.out | apply below_alloc | apply pw_below_drewN | apply below_drew1) | exact HB.out)) hb); clear HO626; clear HB; have HO626 := n0_; have HO630 := n1_; have HB := n2_; clear n0_ n1_ n2_; (try clear hb); (try clear hb2); (try clear hk); (try clear hi); (try clear ho0)))
  (try simp only [Act.put, List.setIfInBounds_toArray, List.set_cons_zero, List.set_cons_succ])
  go_cut [33] (fun v33 wc => ∃ (kq : Nat) (x33_4 : Bool), v33 = .bool x33_4 ∧ Aside0 (laws_FnExactMajorTable.j0 kq a0 a1 t623 t624 t627 x33_4 = some r) ∧ Aside0 (kq ≤ k) ∧ Aside0 (Kd.R (Kd.int .i64) 3 wc w.heap.size (fun k_ => some k_ ≠ (v629 : Value).ownBlock) v625 t623) ∧ Aside0 (Kd.R (Kd.int .i64) 3 wc w.heap.size (fun k_ => some k_ ≠ (v625 : Value).ownBlock) v629 t627) ∧ Aside0 (Below w.heap.size w wc))
  case first =>
    have H := HC5.out
    clear HC5
    replace H := Option.bind_eq_some_iff.mp H
    obtain ⟨t631, A80, H⟩ := H
    replace H : (if t631 = true then (laws_FnExactMajorTable.j0 k a0 a1 t623 t624 t627 (t628 != t624)) else (laws_FnExactMajorTable.j0 k a0 a1 t623 t624 t627 true)) = some r := H
    have A8 := Aside0.mk A80
    clear A80
    by_cases c9 : t631 = true
    · subst c9
      have H1 : (laws_FnExactMajorTable.j0 k a0 a1 t623 t624 t627 (t628 != t624)) = some r := by rw [if_pos rfl] at H; exact H
      clear H
      have H := H1
      clear H1
      have H' := Aside0.mk H
      clear H
      obtain ⟨Ao10, co10, eo10⟩ := Kd.R_slice HO630.out
      subst eo10
      obtain ⟨Ao11, co11, eo11⟩ := Kd.R_slice HO626.out
      subst eo11
      go_wp2_with (first | ((with_reducible refine gate_callee (f := 12) rfl ?_); refine goesL_ (some 27) rfl rfl Try.func12 (by kernel_rfl) rfl #[.slice Ao10 t627.length co10, .slice Ao11 t623.length co11] rfl (by (try simp only [List.map_toArray, List.map_cons, List.map_nil]); first | done | rfl | (simp only [List.length_drop, List.length_take]; rfl)) ?_; (with_reducible refine (laws_eqIntS.calls k _ _ t627 _ _ t623 true _ ?side1 ?side2 ?side3 ?side4 A8.out).mono ?_); (case side1 => repeat (first | exact (Kd.R_reads' HO630.out).2.2 | (with_reducible refine Kd.C_alloc ?_ _) | (with_reducible refine Kd.C_drewN ?_ _) | (with_reducible refine Kd.C_drew ?_))); (case side2 => exact (Kd.R_reads' HO630.out).2.1); (case side3 => repeat (first | exact (Kd.R_reads' HO626.out).2.2 | (with_reducible refine Kd.C_alloc ?_ _) | (with_reducible refine Kd.C_drewN ?_ _) | (with_reducible refine Kd.C_drew ?_))); (case side4 => exact (Kd.R_reads' HO626.out).2.1); rintro e w' ⟨rfl, ⟨nd, rfl⟩⟩; refine ⟨_, rfl, ?_⟩))
      go_meet
      case rel => exact ⟨_, ((t628 != t624)), (by first | rfl | (simp; done) | (simp [*]; done)), H', ⟨by first | omega | exact Nat.le_refl _⟩, ⟨by (with_reducible repeat (first | apply Kd.R_alloc | apply Kd.R_drewN | apply Kd.R_drew)); exact Kd.R_mono HO626.out (fun _ hk => hk.2)⟩, ⟨by (with_reducible repeat (first | apply Kd.R_alloc | apply Kd.R_drewN | apply Kd.R_drew)); exact Kd.R_mono HO630.out (fun _ hk => hk.2)⟩, ⟨by repeat (first | (with_reducible first | exact HB.out | apply below_alloc | apply pw_below_drewN | apply below_drew1) | exact HB.out)⟩⟩
    · replace c9 := Bool.eq_false_iff.mpr c9
      subst c9
      have H1 : (laws_FnExactMajorTable.j0 k a0 a1 t623 t624 t627 true) = some r := by rw [if_neg (show ¬ (false = true) by decide)] at H; exact H
      clear H
      have H := H1
      clear H1
      have H' := Aside0.mk H
      clear H
      obtain ⟨Ao12, co12, eo12⟩ := Kd.R_slice HO630.out
      subst eo12
      obtain ⟨Ao13, co13, eo13⟩ := Kd.R_slice HO626.out
      subst eo13
      go_wp2_with (first | ((with_reducible refine gate_callee (f := 12) rfl ?_); refine goesL_ (some 27) rfl rfl Try.func12 (by kernel_rfl) rfl #[.slice Ao12 t627.length co12, .slice Ao13 t623.length co13] rfl (by (try simp only [List.map_toArray, List.map_cons, List.map_nil]); first | done | rfl | (simp only [List.length_drop, List.length_take]; rfl)) ?_; (with_reducible refine (laws_eqIntS.calls k _ _ t627 _ _ t623 false _ ?side1 ?side2 ?side3 ?side4 A8.out).mono ?_); (case side1 => repeat (first | exact (Kd.R_reads' HO630.out).2.2 | (with_reducible refine Kd.C_alloc ?_ _) | (with_reducible refine Kd.C_drewN ?_ _) | (with_reducible refine Kd.C_drew ?_))); (case side2 => exact (Kd.R_reads' HO630.out).2.1); (case side3 => repeat (first | exact (Kd.R_reads' HO626.out).2.2 | (with_reducible refine Kd.C_alloc ?_ _) | (with_reducible refine Kd.C_drewN ?_ _) | (with_reducible refine Kd.C_drew ?_))); (case side4 => exact (Kd.R_reads' HO626.out).2.1); rintro e w' ⟨rfl, ⟨nd, rfl⟩⟩; refine ⟨_, rfl, ?_⟩))
      go_meet
      case rel => exact ⟨_, (true), (by first | rfl | (simp; done) | (simp [*]; done)), H', ⟨by first | omega | exact Nat.le_refl _⟩, ⟨by (with_reducible repeat (first | apply Kd.R_alloc | apply Kd.R_drewN | apply Kd.R_drew)); exact Kd.R_mono HO626.out (fun _ hk => hk.2)⟩, ⟨by (with_reducible repeat (first | apply Kd.R_alloc | apply Kd.R_drewN | apply Kd.R_drew)); exact Kd.R_mono HO630.out (fun _ hk => hk.2)⟩, ⟨by repeat (first | (with_reducible first | exact HB.out | apply below_alloc | apply pw_below_drewN | apply below_drew1) | exact HB.out)⟩⟩
  case rest =>
    clear HC5
    try clear c1
    try clear c2
    try clear p2
    try clear c6
    try clear c9
    try clear c12
    obtain ⟨kq, x33_4, rfl, HA, HJ4, HO_5, HO_7, HB⟩ := hcut
    cases kq with
    | zero => exact absurd HA.out (by simp [laws_FnExactMajorTable.j0])
    | succ kj4 =>
      have H := HA.out
      clear HA
      simp only [laws_FnExactMajorTable.j0] at H
      by_cases c14 : x33_4 = true
      · subst c14
        have H1 : (some false) = some r := by rw [if_pos rfl] at H; exact H
        clear H
        have H := H1
        clear H1
        obtain rfl := Option.some.inj H
        go_wp2
        go_ret
        exact ⟨by first | rfl | (simp [errW_none, errW_some] <;> rfl) | (simp [*, errW_none, errW_some] <;> rfl), by repeat (first | (with_reducible first | exact HB.out | apply below_alloc | apply pw_below_drewN | apply below_drew1) | exact HB.out)⟩
      · replace c14 := Bool.eq_false_iff.mpr c14
        subst c14
        have H1 : ((laws_markIntS.f kj4 t627 1).bind fun bt632 => ((laws_heldIntS.f kj4 bt632.2 1).bind fun t634 => (if t634 < 0 then (some false) else (if t634 = bt632.1 then ((impl_MajorTable.f kj4 a0 a1).bind fun bt635 => ((laws_eqIntS.f kj4 bt635.1 t623).bind fun t639 => (if t639 = true then (laws_FnExactMajorTable.j1 kj4 bt632.2 bt632.1 (bt635.2 != t624)) else (laws_FnExactMajorTable.j1 kj4 bt632.2 bt632.1 true)))) else (some false))))) = some r := by rw [if_neg (show ¬ (false = true) by decide)] at H; exact H
        clear H
        have H := H1
        clear H1
        replace H := Option.bind_eq_some_iff.mp H
        obtain ⟨⟨t632, t633⟩, A150, H⟩ := H
        replace H : ((laws_heldIntS.f kj4 t633 1).bind fun t634 => (if t634 < 0 then (some false) else (if t634 = t632 then ((impl_MajorTable.f kj4 a0 a1).bind fun bt635 => ((laws_eqIntS.f kj4 bt635.1 t623).bind fun t639 => (if t639 = true then (laws_FnExactMajorTable.j1 kj4 t633 t632 (bt635.2 != t624)) else (laws_FnExactMajorTable.j1 kj4 t633 t632 true)))) else (some false)))) = some r := H
        have A15 := Aside0.mk A150
        clear A150
        replace H := Option.bind_eq_some_iff.mp H
        obtain ⟨t634, A160, H⟩ := H
        replace H : (if t634 < 0 then (some false) else (if t634 = t632 then ((impl_MajorTable.f kj4 a0 a1).bind fun bt635 => ((laws_eqIntS.f kj4 bt635.1 t623).bind fun t639 => (if t639 = true then (laws_FnExactMajorTable.j1 kj4 t633 t632 (bt635.2 != t624)) else (laws_FnExactMajorTable.j1 kj4 t633 t632 true)))) else (some false))) = some r := H
        have A16 := Aside0.mk A160
        clear A160
        by_cases c17 : t634 < 0
        · rw [if_pos c17] at H
          have c17b0 : decide (t634 < 0) = true := decide_eq_true c17
          clear c17
          obtain rfl := Option.some.inj H
          obtain ⟨Ao18, co18, eo18⟩ := Kd.R_slice HO_7.out
          subst eo18
          go_wp2_with (first | ((with_reducible refine gate_callee (f := 13) rfl ?_); refine goesL_ (some 36) rfl rfl Try.func13 (by kernel_rfl) rfl #[.slice Ao18 t627.length co18, .int .i64 1] rfl (by (try simp only [List.map_toArray, List.map_cons, List.map_nil]); first | done | rfl | (simp only [List.length_drop, List.length_take]; rfl)) ?_; (with_reducible refine (laws_markIntS.calls kj4 (fun k_ => some k_ = (.slice Ao18 t627.length co18 : Value).ownBlock) (.slice Ao18 t627.length co18) t627 1 t632 t633 w _ ?side1 ?side2 A15.out).mono ?_); (case side1 => repeat (first | (with_reducible first | exact HB.out | apply below_alloc | apply pw_below_drewN | apply below_drew1) | exact HB.out)); (case side2 => exact Kd.R_tight rfl HO_7.out); rintro e w19 ⟨rfl, hy0, hb, hkp⟩; refine ⟨_, rfl, ?_⟩; have n0_ := Aside0.mk (Kd.R_mono (ok' := fun k_ => some k_ ≠ (.slice Ao18 t627.length co18 : Value).ownBlock) (Kd.R_keptB (HO_5.out) hkp (fun k_ hk_ hs_ => (hk_) hs_)) (fun k_ hk_ => hk_.1)); have n1_ := Aside0.mk (Kd.R_reok rfl hy0 (fun k_ e_ => HO_7.out.1 k_ e_)); have n2_ := Aside0.mk (hb); clear HO_5; clear HO_7; clear HB; have HO_5 := n0_; have HO_7 := n1_; have HB := n2_; clear n0_ n1_ n2_; (try clear hb); (try clear hkp); (try clear hy0)) | ((with_reducible refine gate_callee (f := 14) rfl ?_); refine goesL_ (some 39) rfl rfl Try.func14 (by kernel_rfl) rfl #[.slice Ao18 t633.length co18, .int .i64 1] rfl (by (try simp only [List.map_toArray, List.map_cons, List.map_nil]); first | done | (rw [show t633.length = t627.length from (Kd.R_reads' HO_7.out).1.symm] <;> rfl) | rfl | (simp only [List.length_drop, List.length_take]; rfl)) ?_; (with_reducible refine (laws_heldIntS.calls kj4 _ _ t633 1 t634 _ ?side1 ?side2 A16.out).mono ?_); (case side1 => repeat (first | exact (Kd.R_reads' HO_7.out).2.2 | (with_reducible refine Kd.C_alloc ?_ _) | (with_reducible refine Kd.C_drewN ?_ _) | (with_reducible refine Kd.C_drew ?_))); (case side2 => rw [show t633.length = t627.length from (Kd.R_reads' HO_7.out).1.symm]; exact (Kd.R_reads' HO_7.out).2.1); rintro e w' ⟨rfl, ⟨nd, rfl⟩⟩; refine ⟨_, rfl, ?_⟩))
          go_ret
          exact ⟨by first | rfl | (simp [errW_none, errW_some] <;> rfl) | (simp [*, errW_none, errW_some] <;> rfl), by repeat (first | (with_reducible first | exact HB.out | apply below_alloc | apply pw_below_drewN | apply below_drew1) | exact HB.out)⟩
        · rw [if_neg c17] at H
          have c17b0 : decide (t634 < 0) = false := decide_eq_false c17
          clear c17
          by_cases c20 : t634 = t632
          · rw [if_pos c20] at H
            have c20b0 : (t634 == t632) = true := beq_iff_eq.mpr c20
            have c20b1 : (t634 != t632) = false := bne_eq_false_iff_eq.mpr c20
            clear c20
            replace H := Option.bind_eq_some_iff.mp H
            obtain ⟨⟨t635, t636⟩, A210, H⟩ := H
            replace H : ((laws_eqIntS.f kj4 t635 t623).bind fun t639 => (if t639 = true then (laws_FnExactMajorTable.j1 kj4 t633 t632 (t636 != t624)) else (laws_FnExactMajorTable.j1 kj4 t633 t632 true))) = some r := H
            have A21 := Aside0.mk A210
            clear A210
            have HC22 := Aside0.mk H
            clear H
            obtain ⟨Ao23, co23, eo23⟩ := Kd.R_slice HO_7.out
            subst eo23
            go_upto_region 14 with (first | ((with_reducible refine gate_callee (f := 13) rfl ?_); refine goesL_ (some 36) rfl rfl Try.func13 (by kernel_rfl) rfl #[.slice Ao23 t627.length co23, .int .i64 1] rfl (by (try simp only [List.map_toArray, List.map_cons, List.map_nil]); first | done | rfl | (simp only [List.length_drop, List.length_take]; rfl)) ?_; (with_reducible refine (laws_markIntS.calls kj4 (fun k_ => some k_ = (.slice Ao23 t627.length co23 : Value).ownBlock) (.slice Ao23 t627.length co23) t627 1 t632 t633 w _ ?side1 ?side2 A15.out).mono ?_); (case side1 => repeat (first | (with_reducible first | exact HB.out | apply below_alloc | apply pw_below_drewN | apply below_drew1) | exact HB.out)); (case side2 => exact Kd.R_tight rfl HO_7.out); rintro e w24 ⟨rfl, hy0, hb, hkp⟩; refine ⟨_, rfl, ?_⟩; have n0_ := Aside0.mk (Kd.R_mono (ok' := fun k_ => some k_ ≠ (.slice Ao23 t627.length co23 : Value).ownBlock) (Kd.R_keptB (HO_5.out) hkp (fun k_ hk_ hs_ => (hk_) hs_)) (fun k_ hk_ => hk_.1)); have n1_ := Aside0.mk (Kd.R_reok rfl hy0 (fun k_ e_ => HO_7.out.1 k_ e_)); have n2_ := Aside0.mk (hb); clear HO_5; clear HO_7; clear HB; have HO_5 := n0_; have HO_7 := n1_; have HB := n2_; clear n0_ n1_ n2_; (try clear hb); (try clear hkp); (try clear hy0)) | ((with_reducible refine gate_callee (f := 14) rfl ?_); refine goesL_ (some 39) rfl rfl Try.func14 (by kernel_rfl) rfl #[.slice Ao23 t633.length co23, .int .i64 1] rfl (by (try simp only [List.map_toArray, List.map_cons, List.map_nil]); first | done | (rw [show t633.length = t627.length from (Kd.R_reads' HO_7.out).1.symm] <;> rfl) | rfl | (simp only [List.length_drop, List.length_take]; rfl)) ?_; (with_reducible refine (laws_heldIntS.calls kj4 _ _ t633 1 t634 _ ?side1 ?side2 A16.out).mono ?_); (case side1 => repeat (first | exact (Kd.R_reads' HO_7.out).2.2 | (with_reducible refine Kd.C_alloc ?_ _) | (with_reducible refine Kd.C_drewN ?_ _) | (with_reducible refine Kd.C_drew ?_))); (case side2 => rw [show t633.length = t627.length from (Kd.R_reads' HO_7.out).1.symm]; exact (Kd.R_reads' HO_7.out).2.1); rintro e w' ⟨rfl, ⟨nd, rfl⟩⟩; refine ⟨_, rfl, ?_⟩) | ((with_reducible refine gate_callee (f := 21) rfl ?_); refine goesL_ (some 48) rfl rfl Try.func21 (by kernel_rfl) rfl #[.int .i64 a0, .int .i64 a1] rfl (by (try simp only [List.map_toArray, List.map_cons, List.map_nil]); first | done | rfl | (simp only [List.length_drop, List.length_take]; rfl)) ?_; (with_reducible refine (impl_MajorTable.calls kj4 a0 a1 t635 t636 _ A21.out).mono ?_); rintro e w25 ⟨v637, rfl, ho0, hb⟩; refine ⟨_, rfl, ?_⟩; have n0_ := Aside0.mk (Kd.R_elder' (by (with_reducible repeat (first | apply Kd.R_alloc | apply Kd.R_drewN | apply Kd.R_drew)); exact HO_5.out) (Kd.R_base ho0) hb); have n1_ := Aside0.mk (Kd.R_elder' (by (with_reducible repeat (first | apply Kd.R_alloc | apply Kd.R_drewN | apply Kd.R_drew)); exact HO_7.out) (Kd.R_base ho0) hb); have n2_ := Aside0.mk (Kd.R_lower (Kd.R_new' (Kd.R_new' ho0 (Kd.R_lt (by (with_reducible repeat (first | apply Kd.R_alloc | apply Kd.R_drewN | apply Kd.R_drew)); exact HO_5.out))) (Kd.R_lt (by (with_reducible repeat (first | apply Kd.R_alloc | apply Kd.R_drewN | apply Kd.R_drew)); exact HO_7.out))) (below_size (by repeat (first | (with_reducible first | exact HB.out | apply below_alloc | apply pw_below_drewN | apply below_drew1) | exact HB.out)))); have n3_ := Aside0.mk (below_step (by repeat (first | (with_reducible first | exact HB.out | apply below_alloc | apply pw_below_drewN | apply below_drew1) | exact HB.out)) hb); clear HO_5; clear HO_7; clear HB; have HO_5 := n0_; have HO_7 := n1_; have HO638 := n2_; have HB := n3_; clear n0_ n1_ n2_ n3_; (try clear hb); (try clear hb2); (try clear hk); (try clear hi); (try clear ho0)))
            (try simp only [Act.put, List.setIfInBounds_toArray, List.set_cons_zero, List.set_cons_succ])
            go_cut [59] (fun v59 wc => ∃ (kq : Nat) (x59_21 : Bool), v59 = .bool x59_21 ∧ Aside0 (laws_FnExactMajorTable.j1 kq t633 t632 x59_21 = some r) ∧ Aside0 (kq ≤ kj4) ∧ Aside0 (Kd.R (Kd.int .i64) 3 wc w.heap.size (fun _ => True) (.slice Ao23 t627.length co23) t633) ∧ Aside0 (Below w.heap.size w wc))
            case first =>
              have H := HC22.out
              clear HC22
              replace H := Option.bind_eq_some_iff.mp H
              obtain ⟨t639, A260, H⟩ := H
              replace H : (if t639 = true then (laws_FnExactMajorTable.j1 kj4 t633 t632 (t636 != t624)) else (laws_FnExactMajorTable.j1 kj4 t633 t632 true)) = some r := H
              have A26 := Aside0.mk A260
              clear A260
              by_cases c27 : t639 = true
              · subst c27
                have H1 : (laws_FnExactMajorTable.j1 kj4 t633 t632 (t636 != t624)) = some r := by rw [if_pos rfl] at H; exact H
                clear H
                have H := H1
                clear H1
                have H' := Aside0.mk H
                clear H
                obtain ⟨Ao28, co28, eo28⟩ := Kd.R_slice HO638.out
                subst eo28
                obtain ⟨Ao29, co29, eo29⟩ := Kd.R_slice HO_5.out
                subst eo29
                go_wp2_with (first | ((with_reducible refine gate_callee (f := 12) rfl ?_); refine goesL_ (some 53) rfl rfl Try.func12 (by kernel_rfl) rfl #[.slice Ao28 t635.length co28, .slice Ao29 t623.length co29] rfl (by (try simp only [List.map_toArray, List.map_cons, List.map_nil]); first | done | rfl | (simp only [List.length_drop, List.length_take]; rfl)) ?_; (with_reducible refine (laws_eqIntS.calls kj4 _ _ t635 _ _ t623 true _ ?side1 ?side2 ?side3 ?side4 A26.out).mono ?_); (case side1 => repeat (first | exact (Kd.R_reads' HO638.out).2.2 | (with_reducible refine Kd.C_alloc ?_ _) | (with_reducible refine Kd.C_drewN ?_ _) | (with_reducible refine Kd.C_drew ?_))); (case side2 => exact (Kd.R_reads' HO638.out).2.1); (case side3 => repeat (first | exact (Kd.R_reads' HO_5.out).2.2 | (with_reducible refine Kd.C_alloc ?_ _) | (with_reducible refine Kd.C_drewN ?_ _) | (with_reducible refine Kd.C_drew ?_))); (case side4 => exact (Kd.R_reads' HO_5.out).2.1); rintro e w' ⟨rfl, ⟨nd, rfl⟩⟩; refine ⟨_, rfl, ?_⟩))
                go_meet
                case rel => exact ⟨_, ((t636 != t624)), (by first | rfl | (simp; done) | (simp [*]; done)), H', ⟨by have := HJ4.out; first | omega | exact Nat.le_refl _⟩, ⟨by (with_reducible repeat (first | apply Kd.R_alloc | apply Kd.R_drewN | apply Kd.R_drew)); exact Kd.R_mono HO_7.out (fun _ hk => trivial)⟩, ⟨by repeat (first | (with_reducible first | exact HB.out | apply below_alloc | apply pw_below_drewN | apply below_drew1) | exact HB.out)⟩⟩
              · replace c27 := Bool.eq_false_iff.mpr c27
                subst c27
                have H1 : (laws_FnExactMajorTable.j1 kj4 t633 t632 true) = some r := by rw [if_neg (show ¬ (false = true) by decide)] at H; exact H
                clear H
                have H := H1
                clear H1
                have H' := Aside0.mk H
                clear H
                obtain ⟨Ao30, co30, eo30⟩ := Kd.R_slice HO638.out
                subst eo30
                obtain ⟨Ao31, co31, eo31⟩ := Kd.R_slice HO_5.out
                subst eo31
                go_wp2_with (first | ((with_reducible refine gate_callee (f := 12) rfl ?_); refine goesL_ (some 53) rfl rfl Try.func12 (by kernel_rfl) rfl #[.slice Ao30 t635.length co30, .slice Ao31 t623.length co31] rfl (by (try simp only [List.map_toArray, List.map_cons, List.map_nil]); first | done | rfl | (simp only [List.length_drop, List.length_take]; rfl)) ?_; (with_reducible refine (laws_eqIntS.calls kj4 _ _ t635 _ _ t623 false _ ?side1 ?side2 ?side3 ?side4 A26.out).mono ?_); (case side1 => repeat (first | exact (Kd.R_reads' HO638.out).2.2 | (with_reducible refine Kd.C_alloc ?_ _) | (with_reducible refine Kd.C_drewN ?_ _) | (with_reducible refine Kd.C_drew ?_))); (case side2 => exact (Kd.R_reads' HO638.out).2.1); (case side3 => repeat (first | exact (Kd.R_reads' HO_5.out).2.2 | (with_reducible refine Kd.C_alloc ?_ _) | (with_reducible refine Kd.C_drewN ?_ _) | (with_reducible refine Kd.C_drew ?_))); (case side4 => exact (Kd.R_reads' HO_5.out).2.1); rintro e w' ⟨rfl, ⟨nd, rfl⟩⟩; refine ⟨_, rfl, ?_⟩))
                go_meet
                case rel => exact ⟨_, (true), (by first | rfl | (simp; done) | (simp [*]; done)), H', ⟨by have := HJ4.out; first | omega | exact Nat.le_refl _⟩, ⟨by (with_reducible repeat (first | apply Kd.R_alloc | apply Kd.R_drewN | apply Kd.R_drew)); exact Kd.R_mono HO_7.out (fun _ hk => trivial)⟩, ⟨by repeat (first | (with_reducible first | exact HB.out | apply below_alloc | apply pw_below_drewN | apply below_drew1) | exact HB.out)⟩⟩
            case rest =>
              clear HC22
              try clear c1
              try clear c2
              try clear p2
              try clear c6
              try clear c9
              try clear c12
              try clear c13
              try clear c14
              try clear c17
              try clear c17b0
              try clear c20
              try clear c20b0
              try clear c20b1
              try clear c21
              try clear c27
              try clear p2
              obtain ⟨kq, x59_21, rfl, HA, HJ21, HO_7, HB⟩ := hcut
              have hl7_21 := (Kd.R_reads' HO_7.out).1
              rw [hl7_21] at HO_7
              (try simp only [hl7_21])
              cases kq with
              | zero => exact absurd HA.out (by simp [laws_FnExactMajorTable.j1])
              | succ kj21 =>
                have H := HA.out
                clear HA
                simp only [laws_FnExactMajorTable.j1] at H
                by_cases c32 : x59_21 = true
                · subst c32
                  have H1 : (some false) = some r := by rw [if_pos rfl] at H; exact H
                  clear H
                  have H := H1
                  clear H1
                  obtain rfl := Option.some.inj H
                  go_wp2
                  go_ret
                  exact ⟨by first | rfl | (simp [errW_none, errW_some] <;> rfl) | (simp [*, errW_none, errW_some] <;> rfl), by repeat (first | (with_reducible first | exact HB.out | apply below_alloc | apply pw_below_drewN | apply below_drew1) | exact HB.out)⟩
                · replace c32 := Bool.eq_false_iff.mpr c32
                  subst c32
                  have H1 : ((laws_heldIntS.f kj21 t633 1).bind fun t640 => (if t640 < 0 then (some false) else (if t640 = t632 then (some true) else (some false)))) = some r := by rw [if_neg (show ¬ (false = true) by decide)] at H; exact H
                  clear H
                  have H := H1
                  clear H1
                  replace H := Option.bind_eq_some_iff.mp H
                  obtain ⟨t640, A330, H⟩ := H
                  replace H : (if t640 < 0 then (some false) else (if t640 = t632 then (some true) else (some false))) = some r := H
                  have A33 := Aside0.mk A330
                  clear A330
                  by_cases c34 : t640 < 0
                  · rw [if_pos c34] at H
                    have c34b0 : decide (t640 < 0) = true := decide_eq_true c34
                    clear c34
                    obtain rfl := Option.some.inj H
                    go_wp2_with (first | ((with_reducible refine gate_callee (f := 14) rfl ?_); refine goesL_ (some 62) rfl rfl Try.func14 (by kernel_rfl) rfl #[.slice Ao23 t633.length co23, .int .i64 1] rfl (by (try simp only [List.map_toArray, List.map_cons, List.map_nil]); first | done | rfl | (simp only [List.length_drop, List.length_take]; rfl)) ?_; (with_reducible refine (laws_heldIntS.calls kj21 _ _ t633 1 t640 _ ?side1 ?side2 A33.out).mono ?_); (case side1 => repeat (first | exact (Kd.R_reads' HO_7.out).2.2 | (with_reducible refine Kd.C_alloc ?_ _) | (with_reducible refine Kd.C_drewN ?_ _) | (with_reducible refine Kd.C_drew ?_))); (case side2 => exact (Kd.R_reads' HO_7.out).2.1); rintro e w' ⟨rfl, ⟨nd, rfl⟩⟩; refine ⟨_, rfl, ?_⟩))
                    go_ret
                    exact ⟨by first | rfl | (simp [errW_none, errW_some] <;> rfl) | (simp [*, errW_none, errW_some] <;> rfl), by repeat (first | (with_reducible first | exact HB.out | apply below_alloc | apply pw_below_drewN | apply below_drew1) | exact HB.out)⟩
                  · rw [if_neg c34] at H
                    have c34b0 : decide (t640 < 0) = false := decide_eq_false c34
                    clear c34
                    by_cases c35 : t640 = t632
                    · rw [if_pos c35] at H
                      have c35b0 : (t640 == t632) = true := beq_iff_eq.mpr c35
                      have c35b1 : (t640 != t632) = false := bne_eq_false_iff_eq.mpr c35
                      clear c35
                      obtain rfl := Option.some.inj H
                      go_wp2_with (first | ((with_reducible refine gate_callee (f := 14) rfl ?_); refine goesL_ (some 62) rfl rfl Try.func14 (by kernel_rfl) rfl #[.slice Ao23 t633.length co23, .int .i64 1] rfl (by (try simp only [List.map_toArray, List.map_cons, List.map_nil]); first | done | rfl | (simp only [List.length_drop, List.length_take]; rfl)) ?_; (with_reducible refine (laws_heldIntS.calls kj21 _ _ t633 1 t640 _ ?side1 ?side2 A33.out).mono ?_); (case side1 => repeat (first | exact (Kd.R_reads' HO_7.out).2.2 | (with_reducible refine Kd.C_alloc ?_ _) | (with_reducible refine Kd.C_drewN ?_ _) | (with_reducible refine Kd.C_drew ?_))); (case side2 => exact (Kd.R_reads' HO_7.out).2.1); rintro e w' ⟨rfl, ⟨nd, rfl⟩⟩; refine ⟨_, rfl, ?_⟩))
                      go_ret
                      exact ⟨by first | rfl | (simp [errW_none, errW_some] <;> rfl) | (simp [*, errW_none, errW_some] <;> rfl), by repeat (first | (with_reducible first | exact HB.out | apply below_alloc | apply pw_below_drewN | apply below_drew1) | exact HB.out)⟩
                    · rw [if_neg c35] at H
                      have c35b0 : (t640 == t632) = false := beq_eq_false_iff_ne.mpr c35
                      have c35b1 : (t640 != t632) = true := bne_iff_ne.mpr c35
                      obtain rfl := Option.some.inj H
                      go_wp2_with (first | ((with_reducible refine gate_callee (f := 14) rfl ?_); refine goesL_ (some 62) rfl rfl Try.func14 (by kernel_rfl) rfl #[.slice Ao23 t633.length co23, .int .i64 1] rfl (by (try simp only [List.map_toArray, List.map_cons, List.map_nil]); first | done | rfl | (simp only [List.length_drop, List.length_take]; rfl)) ?_; (with_reducible refine (laws_heldIntS.calls kj21 _ _ t633 1 t640 _ ?side1 ?side2 A33.out).mono ?_); (case side1 => repeat (first | exact (Kd.R_reads' HO_7.out).2.2 | (with_reducible refine Kd.C_alloc ?_ _) | (with_reducible refine Kd.C_drewN ?_ _) | (with_reducible refine Kd.C_drew ?_))); (case side2 => exact (Kd.R_reads' HO_7.out).2.1); rintro e w' ⟨rfl, ⟨nd, rfl⟩⟩; refine ⟨_, rfl, ?_⟩))
                      go_ret
                      exact ⟨by first | rfl | (simp [errW_none, errW_some] <;> rfl) | (simp [*, errW_none, errW_some] <;> rfl), by repeat (first | (with_reducible first | exact HB.out | apply below_alloc | apply pw_below_drewN | apply below_drew1) | exact HB.out)⟩
          · rw [if_neg c20] at H
            have c20b0 : (t634 == t632) = false := beq_eq_false_iff_ne.mpr c20
            have c20b1 : (t634 != t632) = true := bne_iff_ne.mpr c20
            obtain rfl := Option.some.inj H
            obtain ⟨Ao36, co36, eo36⟩ := Kd.R_slice HO_7.out
            subst eo36
            go_wp2_with (first | ((with_reducible refine gate_callee (f := 13) rfl ?_); refine goesL_ (some 36) rfl rfl Try.func13 (by kernel_rfl) rfl #[.slice Ao36 t627.length co36, .int .i64 1] rfl (by (try simp only [List.map_toArray, List.map_cons, List.map_nil]); first | done | rfl | (simp only [List.length_drop, List.length_take]; rfl)) ?_; (with_reducible refine (laws_markIntS.calls kj4 (fun k_ => some k_ = (.slice Ao36 t627.length co36 : Value).ownBlock) (.slice Ao36 t627.length co36) t627 1 t632 t633 w _ ?side1 ?side2 A15.out).mono ?_); (case side1 => repeat (first | (with_reducible first | exact HB.out | apply below_alloc | apply pw_below_drewN | apply below_drew1) | exact HB.out)); (case side2 => exact Kd.R_tight rfl HO_7.out); rintro e w37 ⟨rfl, hy0, hb, hkp⟩; refine ⟨_, rfl, ?_⟩; have n0_ := Aside0.mk (Kd.R_mono (ok' := fun k_ => some k_ ≠ (.slice Ao36 t627.length co36 : Value).ownBlock) (Kd.R_keptB (HO_5.out) hkp (fun k_ hk_ hs_ => (hk_) hs_)) (fun k_ hk_ => hk_.1)); have n1_ := Aside0.mk (Kd.R_reok rfl hy0 (fun k_ e_ => HO_7.out.1 k_ e_)); have n2_ := Aside0.mk (hb); clear HO_5; clear HO_7; clear HB; have HO_5 := n0_; have HO_7 := n1_; have HB := n2_; clear n0_ n1_ n2_; (try clear hb); (try clear hkp); (try clear hy0)) | ((with_reducible refine gate_callee (f := 14) rfl ?_); refine goesL_ (some 39) rfl rfl Try.func14 (by kernel_rfl) rfl #[.slice Ao36 t633.length co36, .int .i64 1] rfl (by (try simp only [List.map_toArray, List.map_cons, List.map_nil]); first | done | (rw [show t633.length = t627.length from (Kd.R_reads' HO_7.out).1.symm] <;> rfl) | rfl | (simp only [List.length_drop, List.length_take]; rfl)) ?_; (with_reducible refine (laws_heldIntS.calls kj4 _ _ t633 1 t634 _ ?side1 ?side2 A16.out).mono ?_); (case side1 => repeat (first | exact (Kd.R_reads' HO_7.out).2.2 | (with_reducible refine Kd.C_alloc ?_ _) | (with_reducible refine Kd.C_drewN ?_ _) | (with_reducible refine Kd.C_drew ?_))); (case side2 => rw [show t633.length = t627.length from (Kd.R_reads' HO_7.out).1.symm]; exact (Kd.R_reads' HO_7.out).2.1); rintro e w' ⟨rfl, ⟨nd, rfl⟩⟩; refine ⟨_, rfl, ?_⟩))
            go_ret
            exact ⟨by first | rfl | (simp [errW_none, errW_some] <;> rfl) | (simp [*, errW_none, errW_some] <;> rfl), by repeat (first | (with_reducible first | exact HB.out | apply below_alloc | apply pw_below_drewN | apply below_drew1) | exact HB.out)⟩


end Go.Proofs.Ytnihjpnheooeoaa.F
end

section
namespace Go.Proofs.Ytnihjpnheooeoaa.Q
open Go.RowKit Go.Proofs.YtnihjpnheooeoaaW.PrintWords Go.Proofs.Ytnihjpnheooeoaa.F
set_option linter.unusedVariables false
def sidesOk (a b : Int) : Prop := (1 ≤ a ∧ a ≤ 10) ∧ (1 ≤ b ∧ b ≤ 10) ∧ a * b ≤ 10
instance (a b : Int) : Decidable (sidesOk a b) := by unfold sidesOk; exact inferInstance
theorem areSides_iff (a b : Int) : impl_areSides.f a b 10 = some (decide (sidesOk a b)) := by
  have e : decide (sidesOk a b) = decide ((1 ≤ a ∧ a ≤ 10) ∧ (1 ≤ b ∧ b ≤ 10) ∧ a * b ≤ 10) := by rw [decide_eq_decide]; exact Iff.rfl
  rw [e]
  unfold impl_areSides.f
  simp only [within_eq, Option.bind_some]
  by_cases ha : 1 ≤ a ∧ a ≤ 10
  · by_cases hb : 1 ≤ b ∧ b ≤ 10
    · have h1 : 0 ≤ a * b := Int.mul_nonneg (by omega) (by omega)
      have h2 : a * b ≤ 10 * 10 := Int.mul_le_mul ha.2 hb.2 (by omega) (by omega)
      rw [wid (by omega) (by omega), range_true ha, range_true hb]
      simp [ha, hb]
    · rw [range_true ha, range_false hb]
      rw [if_pos rfl, if_neg (by simp), decide_eq_false (by intro h; exact hb h.2.1)]
  · rw [range_false ha, if_neg (by simp), decide_eq_false (by intro h; exact ha h.1)]
def rectO : Option (List Int) → Option (List Int) → Nat → Bool
  | some p, some q, n => decide (p = q) && (isPo p && decide (p.length = n))
  | _, _, _ => false
theorem rectO_parts {o1 o2 : Option (List Int)} {n : Nat} (h : rectO o1 o2 n = true) : ∃ p, o1 = some p ∧ o2 = some p ∧ PO p ∧ p.length = n := by
  cases o1 with
  | none => simp [rectO] at h
  | some p =>
    cases o2 with
    | none => simp [rectO] at h
    | some q =>
      simp only [rectO] at h
      rw [Bool.and_eq_true, Bool.and_eq_true, decide_eq_true_eq, decide_eq_true_eq, isPo_iff] at h
      obtain ⟨rfl, h2, h3⟩ := h
      exact ⟨p, rfl, rfl, h2, h3⟩
def okRect (a b : Nat) : Bool := rectO (impl_rectangle.f 200 (a : Int) (b : Int)) (spec_poRectangle.f 200 (a : Int) (b : Int)) (a * b)
theorem allRect : (List.range 11).all (fun a => (List.range 11).all fun b => a == 0 || b == 0 || decide (10 < a * b) || okRect a b) = true := by decide +kernel
theorem rect_both {a b : Int} (h : sidesOk a b) : ∃ (n m : Nat) (p : List Int), a = (n : Int) ∧ b = (m : Int) ∧ 1 ≤ n ∧ 1 ≤ m ∧ n ≤ 10 ∧ m ≤ 10 ∧ n * m ≤ 10 ∧ Ev (fun k => impl_rectangle.f k a b) p ∧ Ev (fun k => spec_poRectangle.f k a b) p ∧ PO p ∧ p.length = n * m := by
  have h0 := h
  unfold sidesOk at h0
  obtain ⟨n, rfl⟩ := Int.eq_ofNat_of_zero_le (show 0 ≤ a by omega)
  obtain ⟨m, rfl⟩ := Int.eq_ofNat_of_zero_le (show 0 ≤ b by omega)
  have hab : n * m ≤ 10 := by have := h0.2.2; exact Int.ofNat_le.1 (by rw [Int.natCast_mul]; exact this)
  have hk := List.all_eq_true.1 (List.all_eq_true.1 allRect n (List.mem_range.2 (by omega))) m (List.mem_range.2 (by omega))
  rw [Bool.or_eq_true, Bool.or_eq_true, Bool.or_eq_true, beq_iff_eq, beq_iff_eq, decide_eq_true_eq] at hk
  rcases hk with ((hk | hk) | hk) | hk
  · omega
  · omega
  · omega
  · unfold okRect at hk
    obtain ⟨p, h1, h2, h3, h4⟩ := rectO_parts hk
    exact ⟨n, m, p, rfl, rfl, by omega, by omega, by omega, by omega, hab, Ev.of (impl_rectangle.mono _ _) h1, Ev.of (spec_poRectangle.mono _ _) h2, h3, h4⟩
end Go.Proofs.Ytnihjpnheooeoaa.Q
end
