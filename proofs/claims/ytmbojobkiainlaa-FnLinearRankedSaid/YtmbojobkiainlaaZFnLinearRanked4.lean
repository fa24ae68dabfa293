/- Part 4 of the texts below the row of FnLinearRanked: printed functions with their contracts, and plain lemmas. No condition. -/
import Derived.Test.YtmbojobkiainlaaZFnLinearRanked3
import Derived.Lib.SliceRun
import Derived.Shelf.SlicesE.DeleteFunc
import Derived.Deep.RegionHeld3
import Derived.Lib.Hide
import Derived.Deep.RegionWith
import Derived.OneCell
import Derived.Laws.EntriesVeiled
section
namespace Go.Proofs.Ytmbojobkiainlaa.F
open Go.RowKit Go.Proofs.YtmbojobkiainlaaW.PrintWords Go.Proofs.YtmbojobkiainlaaW.PrintLast Go.Proofs.YtmbojobkiainlaaW.PrintMore
set_option linter.unusedVariables false
set_option linter.unusedSimpArgs false
def slices_Clone_int_int.f (l0 : List Int) : Option (List Int) := if l0.length < 17592186044416 then some l0 else none
theorem slices_Clone_int_int.info : (Try.prog.info? 3).map (fun i => (i.zero, i.size, i.bytes)) = some (some (.int .i64 0), 1, 8) := by kernel_rfl
theorem slices_Clone_int_int.nil_ (w : World) (a : Option Addr) (n c n' c' : Nat) : (binOp .eql 24 (.slice a n c) (.slice none n' c')).run Try.prog w = .ok (.bool a.isNone) w := Lib.run_eql_slice_nil w _ _ a n c n' c' Try.underlying24
set_option maxHeartbeats 8000000 in
set_option maxRecDepth 100000 in
theorem slices_Clone_int_int.calls (A0 : Option Addr) (c0 : Nat) (l0 : List Int) (r : List Int) (w : World) (hr0 : Kd.C (Kd.int .i64) w A0 l0.length l0) (hc0 : l0.length ≤ c0) (h : slices_Clone_int_int.f l0 = some r) :
 Calls Try.prog 129 #[.slice A0 l0.length c0] w fun e w' => ∃ v0_ : Value, e = .returned (v0_) ∧ Kd.R (Kd.int .i64) 3 w' w.heap.size (fun _ => True) v0_ r ∧ Below w.heap.size w w' := by
 unfold slices_Clone_int_int.f at h
 by_cases c2 : l0.length < 17592186044416
 ·rw [if_pos c2] at h
  obtain rfl := Option.some.inj h
  clear h
  have LMc2 := am c2
  clear c2
  cases A0 with
  | none =>
   have h0 : l0.length = 0 := by
    rcases Nat.eq_zero_or_pos l0.length with h | h
    ·exact h
    ·obtain ⟨ad, e, _⟩ := hr0.2.2 h; cases e
   obtain rfl : l0 = [] := List.length_eq_zero_iff.1 h0
   clear h0 hr0 hc0 LMc2
   have q22 := slices_Clone_int_int.nil_
   go_enter Try.func129, Try.ntmps129
   go_wp2
   go_ret
   exact ⟨_, rfl, Kd.R_nil _ _ _ _ _, Below.refl _ _⟩
  | some ad =>
   have HR0 := am hr0
   have HC0 := am hc0
   clear hr0 hc0
   have HB := am (Below.refl w.heap.size w)
   have q22 := slices_Clone_int_int.nil_
   go_enter Try.func129, Try.ntmps129
   go_wp2_with (first | ((with_reducible refine gate_dst (N := 5) rfl ?_); refine Kd.R_lit (Kd.int .i64) _ 3 ?hg (N := 5) ?hd (xs := ([] : List Int)) (inner := []) (ok := fun _ => True) (okp := fun _ => True) ?hr ?hp (fun _ hk => hk) trivial (Below.refl _ _) (Nat.le_refl _) (by simp) ?_; (case hd => rfl); (case hg => rfl); (case hr => first | (go_simp; done) | (go_simp; rfl)); (case hp => exact (Reps.none _ _)); intro v663 w3 ho4 hb hg_ hnew_; clear hg_ hnew_; have HO664 := am (Kd.R_lower ho4 (below_size qB)); replace HB := am (below_step qB hb); clear hb ho4) | ((with_reducible refine gate_builtin (b := .append) (xs := #[.tmp 5, .tmp 6]) rfl ?_); at_builtin; refine Kd.R_append_rows (Kd.int .i64) (w0 := w) w.heap.size rfl (.tmp 5) (.tmp 6) 24 3 (.int .i64 0) 8 rfl Try.underlying24 slices_Clone_int_int.info rfl (by decide) (by omega) v663 [] l0 _ _ _ (fun _ => True) (fun _ => False) rfl rfl ?aO ?aR (fun _ _ h => h) (fun _ h => h.elim) ?aF ?aB ?aS ?aL ?_; (case aR => exact qC (Kd.C_below HR0.out HB.out)); (case aB => exact qB); (case aF => exact (fun _ _ => trivial)); (case aO => exact (qR HO664.out)); (case aS => exact (below_size qB)); (case aL => have := LMc2.out; simp; omega); intro v666 w5 ho hb hg hat; rw [List.nil_append] at ho; have n0_ := am (hb); have HO667 := am (ho); clear HB HO664; have HB := n0_; clear n0_; clear ho hb hg hat))
   go_ret
   exact ⟨_, by first | rfl | (simp; done) | (simp [*]; done), qR HO667.out, qB⟩
 ·rw [if_neg c2] at h; cases h
/-- Whether an element is struck. -/
def nextDel (p : List Int) (s x : Int) : Bool := Go.bits .andNot .i64 (rd p x) s != 0
def impl_Poset_next.f (k : Nat) (l0_0 : List Int) (a1 : Int) : Option (List Int) :=
 (impl_Poset_all.f l0_0).bind fun t => (impl_items.f k (Go.bits .andNot .i64 t a1)).bind fun l => if (∀ x ∈ l, 0 ≤ x ∧ x < (l0_0.length : Int)) ∧ (1 ≤ l0_0.length ∧ l.length ≤ 1000) then some (l.filter fun x => !nextDel l0_0 a1 x) else none
theorem impl_Poset_next.mono : ∀ a0 a1 k, LeO (impl_Poset_next.f k a0 a1) (impl_Poset_next.f (k + 1) a0 a1) := fun a0 a1 k => LeO.bind (LeO.refl _) (fun _ => LeO.bind (impl_items.mono _ _) (fun _ => LeO.refl _))
set_option maxHeartbeats 8000000 in
set_option maxRecDepth 100000 in
theorem next_lit (gp gs : Nat) (e : Nat) (A0 : Option Addr) (c0 : Nat) (p : List Int) (s : Int) (w : World) (hp : w.cell? ⟨gp, 0, none⟩ = some (.slice A0 p.length c0)) (hs : w.cell? ⟨gs, 0, none⟩ = some (.int .i64 s)) (hr : Kd.C (Kd.int .i64) w A0 p.length p) (he : e < p.length) :
 Calls Try.prog 146 #[.int .i64 (e : Int), .pointer (some ⟨gp, 0, none⟩), .pointer (some ⟨gs, 0, none⟩)] w fun en w' => en = .returned (.bool (nextDel p s (e : Int))) ∧ ∃ q, w' = w.drewN q := by
 have hu28 := Try.underlying26
 unfold nextDel
 obtain ⟨ad, rfl, hc⟩ := Kd.at_int hr (e : Int) (by omega) (by omega)
 rw [Int.toNat_natCast] at hc
 have c1 : 0 ≤ (e : Int) := by omega
 have c2 : (e : Int) < (p.length : Int) := by omega
 have c3 : decide (e < p.length) = true := decide_eq_true he
 have c4 : (e < p.length) = True := eq_true he
 clear hr
 go_enter Try.func146, Try.ntmps146
 go_wp2_with (fail)
 go_quiet (fail)
 go_wp2
 go_ret
 exact ⟨rfl, _, rfl⟩
def next_ren : Go.Shelf.Ren := ⟨fun | 6 => 161 | 10 => 145 | n => n, fun | 0 => 0 | 3 => 3 | 4 => 4 | 22 => 24 | 23 => 3 | 25 => 70 | n => n, fun n => n⟩
theorem next_lay : SlLaysH.n10 Try.prog next_ren := {
 mixed := by kernel_rfl
 f6 := ⟨Try.f161.name, by decide, Try.func161⟩
 f10 := ⟨Try.f145.name, by decide, Try.func145⟩
 t0 := by kernel_rfl
 a0 := fun w => by kernel_rfl
 z0 := fun w => by kernel_rfl
 v0 := fun w => by kernel_rfl
 t3 := by kernel_rfl
 a3 := fun w => by kernel_rfl
 z3 := fun w => by kernel_rfl
 v3 := fun w => by kernel_rfl
 t4 := by kernel_rfl
 a4 := fun w => by kernel_rfl
 z4 := fun w => by kernel_rfl
 v4 := fun w => by kernel_rfl
 t22 := by kernel_rfl
 a22 := fun w => by kernel_rfl
 z22 := fun w => by kernel_rfl
 v22 := fun w => by kernel_rfl
 a23 := fun w => by kernel_rfl
 z23 := fun w => by kernel_rfl
 t25 := by kernel_rfl
 a25 := fun w => by kernel_rfl
 z25 := fun w => by kernel_rfl
 v25 := fun w => by kernel_rfl }
def finV {n : Nat} (x : Fin n) : Int := ((x : Nat) : Int)
def finE {n : Nat} (x : Fin n) : Value := .int .i64 (finV x)
theorem fin_list {n : Nat} (l : List Int) (h : ∀ x ∈ l, 0 ≤ x ∧ x < (n : Int)) : ∃ lf : List (Fin n), l = lf.map finV := by
 induction l with
 | nil => exact ⟨[], rfl⟩
 | cons x l ih =>
  obtain ⟨lf, e⟩ := ih (fun y hy => h y (List.mem_cons_of_mem _ hy))
  have hx := h x List.mem_cons_self
  refine ⟨⟨x.toNat, by omega⟩ :: lf, ?_⟩
  rw [List.map_cons, ← e]
  show _ = finV _ :: l
  unfold finV
  congr 1
  show x = ((x.toNat : Nat) : Int)
  omega
theorem next_C {w W : World} {A : Option Addr} {n : Nat} {p : List Int} (h : Kd.C (Kd.int .i64) w A n p) (hc : ∀ a : Addr, A.map (·.block) = some a.block → ∀ v, w.cell? a = some v → W.cell? a = some v) : Kd.C (Kd.int .i64) W A n p := by
 obtain ⟨h1, h2, h3⟩ := Kd.reads_of_C (d := (0 : Int)) h
 refine Kd.C_of_reads (d := (0 : Int)) ⟨h1, h2, fun hn => ?_⟩
 obtain ⟨ad, e, hr⟩ := h3 hn
 refine ⟨ad, e, fun j hj => hc _ ?_ _ (hr j hj)⟩
 subst e
 unfold Addr.add
 split <;> rfl
section
open Go.Sort Go.Shelf Go.Lib
theorem next_del {n : Nat} (hn : 0 < n) (gp gs g cap : Nat) (lf : List (Fin n)) (A0 : Option Addr) (c0 : Nat) (p : List Int) (hpn : p.length = n) (s : Int) (W : World) (base : Nat) (ok : Nat → Prop)
 (hR : Kd.R (Kd.int .i64) 3 W base ok (.slice (some ⟨g, 0, none⟩) (lf.map finV).length cap) (lf.map finV)) (hl : lf.length ≤ 1000) (hp : W.cell? ⟨gp, 0, none⟩ = some (.slice A0 p.length c0)) (hs : W.cell? ⟨gs, 0, none⟩ = some (.int .i64 s)) (hr : Kd.C (Kd.int .i64) W A0 p.length p)
 (n1 : gp ≠ g) (n2 : gs ≠ g) (n3 : ∀ ad, A0 = some ad → ad.block ≠ g) :
 Calls Try.prog 145 #[.slice (some ⟨g, 0, none⟩) (lf.map finV).length cap, .func (.func 146) #[] #[.pointer (some ⟨gp, 0, none⟩), .pointer (some ⟨gs, 0, none⟩)]] W fun e w' =>
  ∃ v : Value, e = .returned v ∧ Kd.R (Kd.int .i64) 3 w' base ok v ((lf.map finV).filter fun x => !nextDel p s x) ∧ W.grownBy w' (some g) := by
 have hInh : Inhabited (Fin n) := ⟨⟨0, hn⟩⟩
 have hown := Kd.own_of_R hR
 have hok := hR.1
 obtain ⟨hx1, hx2⟩ := hown
 rcases hx2 with ⟨e, _⟩ | ⟨g', cap', cur, e, hg, hh, hnc, hcm, hcs, ht⟩
 ·cases e
 injection e with e1 e2 e3
 injection e1 with e4
 injection e4 with e5
 subst e5; subst e3
 have hlen : (lf.map finV).length = lf.length := List.length_map _
 have hcell : ∀ j (hj : j < lf.length), cur[j]? = some (finE lf[j]) := fun j hj => by
  have h1 : (cur.toList.take ((lf.map finV).length * 1))[j]? = some (finE lf[j]) := by
   rw [ht]
   unfold encs
   rw [List.getElem?_map, List.getElem?_map, List.getElem?_eq_getElem hj]; rfl
  rw [List.getElem?_take, if_pos (by omega)] at h1
  simpa using h1
 have hH : Holds (finE (n := n)) W g 0 lf.toArray := fun j hj => by
  have hj' : j < lf.length := by simpa using hj
  refine ⟨?_, blk_frozen hh _⟩
  rw [Nat.zero_add, blk_cell hh j, hcell j hj']
  congr 2
  simp [getElem!_pos, hj']
 have eg : ∀ args w, (callFunc 146 args).run Try.prog w = .ok (.enter 146 args) w := enters_of Try.func146 (by kernel_rfl) rfl
 have lp := World.block_lt_of_cell? W _ hp
 have ls := World.block_lt_of_cell? W _ hs
 have hP : PredAt Try.prog 146 #[.pointer (some ⟨gp, 0, none⟩), .pointer (some ⟨gs, 0, none⟩)] (finE (n := n)) (fun x => nextDel p s (finV x)) W := fun W1 x hb =>
  next_lit gp gs x A0 c0 p s W1 ((hb.cell (p := ⟨gp, 0, none⟩) lp).trans hp) ((hb.cell (p := ⟨gs, 0, none⟩) ls).trans hs) (Kd.C_below hr hb) (by have := x.2; omega)
 have hO : PredOver Try.prog 146 #[.pointer (some ⟨gp, 0, none⟩), .pointer (some ⟨gs, 0, none⟩)] (finE (n := n)) (fun x => nextDel p s (finV x)) g 0 lf.toArray.size W := fun m os dk x _ => by
  have hcl : ∀ a : Addr, a.block ≠ g → ∀ v, W.cell? a = some v → (sortWorld (finE (n := n)) W g 0 m dk os).cell? a = some v := fun a ha v hv => by
   have hlt := World.block_lt_of_cell? W _ hv
   unfold sortWorld
   rw [cell?_grow _ _ _ (by rw [size_putRow]; exact hlt), cell?_putRow_other _ _ _ _ _ _ (Or.inl ha)]
   exact hv
  refine next_lit gp gs x A0 c0 p s _ (hcl _ n1 _ hp) (hcl _ n2 _ hs) (next_C hr (fun a ha v hv => hcl a ?_ v hv)) (by have := x.2; omega)
  cases A0 with
  | none => cases ha
  | some ad =>
   have h3 : ad.block = a.block := Option.some.inj ha
   rw [← h3]; exact n3 ad rfl
 have hcon := AnyE.slices_DeleteFunc next_lay (finE (n := n)) (fun _ => rfl) (fun x => nextDel p s (finV x)) 146 #[.pointer (some ⟨gp, 0, none⟩), .pointer (some ⟨gs, 0, none⟩)] eg ⟨0, hn⟩ (fun w => by kernel_rfl) g 0 cap lf.toArray W hP hO hH (by simp; omega) (by simp; omega)
 have hsz : lf.toArray.size = (lf.map finV).length := by simp
 rw [hsz] at hcon
 refine Calls.mono hcon ?_
 rintro e w' ⟨rfl, q, rfl⟩
 have hf : (lf.map finV).filter (fun x => !nextDel p s x) = (lf.filter fun x => !nextDel p s (finV x)).map finV := by rw [List.filter_map]; rfl
 rw [hf]
 generalize hF : lf.filter (fun x => !nextDel p s (finV x)) = ff
 have hle : ff.length ≤ lf.length := by rw [← hF]; exact List.length_filter_le _ _
 generalize hD : (ff ++ List.replicate ((lf.map finV).length - ff.length) (⟨0, hn⟩ : Fin n)).toArray = D
 have hDs : ff.length ≤ D.size := by rw [← hD]; simp
 have hDg : ∀ j (hj : j < ff.length), D[j]! = ff[j] := fun j hj => by
  rw [getElem!_pos D j (by omega)]
  subst hD
  simp [List.getElem_append_left hj]
 have hhp : (putRow finE (Sort.ahead W q) g 0 D).heap[g]? = some (.cells (putCells finE 0 D cur) 3 (0, 0)) := by
  simp [putRow, mapBlock, Array.getElem?_modify, Sort.ahead, hh, onCells]
 have hown' : (putRow finE (Sort.ahead W q) g 0 D).ownsRow base 3 1 (.slice (some ⟨g, 0, none⟩) ff.length cap) (ff.map finV).length (encs (Value.int .i64) (ff.map finV)) := by
  refine ⟨by simp [encs], .inr ⟨g, cap, putCells finE 0 D cur, by rw [List.length_map], hg, hhp, by rw [List.length_map]; omega, hcm, by simp [putCells]; omega, ?_⟩⟩
  apply List.ext_getElem?
  intro j
  rw [List.getElem?_take]
  unfold encs
  rw [List.getElem?_map, List.getElem?_map, List.length_map, Nat.mul_one]
  by_cases hj : j < ff.length
  ·rw [if_pos hj, List.getElem?_eq_getElem hj]
   have hjc : j < cur.size := by omega
   simp only [putCells, Array.getElem?_toList, Array.getElem?_mapIdx, Option.map_some]
   rw [Array.getElem?_eq_getElem hjc, Option.map_some, if_pos (by omega), Nat.sub_zero, hDg j hj]
   rfl
  ·rw [if_neg hj, List.getElem?_eq_none (by omega)]; rfl
 refine ⟨_, rfl, Kd.R_of_own hown' (fun k hk => hok k hk), ?_⟩
 refine ⟨rfl, rfl, rfl, ?_, ?_⟩
 ·simp [putRow, mapBlock, Sort.ahead]
 ·intro k hk hne
  have hne' : g ≠ k := fun e => hne (by rw [e])
  simp [putRow, mapBlock, Array.getElem?_modify, Sort.ahead, hne']
theorem next_nil (A : Option Addr) (c : Nat) (fv : Value) (W : World) : Calls Try.prog 145 #[.slice A 0 c, fv] W fun e w' => e = .returned (.slice A 0 c) ∧ ∃ q, w' = W.drewN q := by
 have hi := am (AnyE.slices_IndexFunc_empty (P := Try.prog) (ρ := next_ren) { next_lay with } A c fv W)
 go_enter Try.func145, Try.ntmps145
 go_wp2_with (go_at_call 161; refine hi.out.mono ?_; rintro e w' ⟨rfl, rfl⟩)
 go_ret
 exact ⟨rfl, 0, rfl⟩
end
theorem next_any (gp gs : Nat) (v : Value) (l : List Int) (A0 : Option Addr) (c0 : Nat) (p : List Int) (s : Int) (W : World) (base : Nat)
 (hR : Kd.R (Kd.int .i64) 3 W base (fun _ => True) v l) (hin : (∀ x ∈ l, 0 ≤ x ∧ x < (p.length : Int)) ∧ (1 ≤ p.length ∧ l.length ≤ 1000)) (hp : W.cell? ⟨gp, 0, none⟩ = some (.slice A0 p.length c0)) (hs : W.cell? ⟨gs, 0, none⟩ = some (.int .i64 s)) (hr : Kd.C (Kd.int .i64) W A0 p.length p)
 (n1 : gp < base) (n2 : gs < base) (n3 : ∀ ad, A0 = some ad → ad.block < base) :
 Calls Try.prog 145 #[v, .func (.func 146) #[] #[.pointer (some ⟨gp, 0, none⟩), .pointer (some ⟨gs, 0, none⟩)]] W fun e w' =>
  ∃ v' : Value, e = .returned v' ∧ Kd.R (Kd.int .i64) 3 w' base (fun _ => True) v' (l.filter fun x => !nextDel p s x) ∧ W.grownBy w' v.ownBlock := by
 rcases (Kd.own_of_R hR).2 with ⟨rfl, h0⟩ | ⟨g, cap, cur, e, hg, hh, r⟩
 ·obtain rfl : l = [] := List.length_eq_zero_iff.1 h0
  refine (next_nil none 0 _ W).mono ?_
  rintro e w' ⟨rfl, q, rfl⟩
  exact ⟨_, rfl, Kd.R_nil _ _ _ _ _, ⟨rfl, rfl, rfl, Nat.le_refl _, fun _ _ _ => rfl⟩⟩
 ·subst e
  obtain ⟨lf, rfl⟩ := fin_list l hin.1
  refine (next_del (by omega) gp gs g cap lf A0 c0 p rfl s W base _ hR (by have := hin.2.2; rw [List.length_map] at this; exact this) hp hs hr (by omega) (by omega) (fun ad h => by have := n3 ad h; omega)).mono ?_
  rintro e w' ⟨v', rfl, hr', hgr⟩
  exact ⟨v', rfl, hr', hgr⟩
theorem next_held_call {w W w1 : World} {a b : Addr} {u v : Value} (h : W.cell? a = some u ∧ W.cell? b = some v ∧ Below w.heap.size w W) (hb : Below W.heap.size W w1) : w1.cell? a = some u ∧ w1.cell? b = some v ∧ Below w.heap.size w w1 :=
 ⟨(hb.cell (p := a) (World.block_lt_of_cell? _ _ h.1)).trans h.1, (hb.cell (p := b) (World.block_lt_of_cell? _ _ h.2.1)).trans h.2.1, below_step h.2.2 hb⟩
theorem next_held_lt {w W w1 : World} {a b : Addr} {u v : Value} (h : W.cell? a = some u ∧ W.cell? b = some v ∧ Below w.heap.size w W) (hb : Below W.heap.size W w1) : b.block < W.heap.size ∧ w.heap.size ≤ W.heap.size := ⟨World.block_lt_of_cell? _ _ h.2.1, h.2.2.size⟩
theorem next_held_row {W : World} {base b : Nat} {ok : Nat → Prop} {v : Value} {l : List Int} (h : Kd.R (Kd.int .i64) 3 W base ok v l) (hb : b < base) : ∀ k, v.ownBlock = some k → b < k := fun k hk => Nat.lt_of_lt_of_le hb ((Kd.R_bound h).1 k hk).2.1
theorem next_held_grown {w W w1 : World} {u v : Value} {row : Option Nat} (h : W.cell? ⟨w.heap.size, 0, none⟩ = some u ∧ W.cell? ⟨w.heap.size + 1, 0, none⟩ = some v ∧ Below w.heap.size w W) (hg : W.grownBy w1 row) (hr : ∀ k, row = some k → w.heap.size + 1 < k) : w1.cell? ⟨w.heap.size, 0, none⟩ = some u ∧ w1.cell? ⟨w.heap.size + 1, 0, none⟩ = some v ∧ Below w.heap.size w w1 := by
 have l1 : w.heap.size < W.heap.size := World.block_lt_of_cell? _ _ h.1
 have l2 : w.heap.size + 1 < W.heap.size := World.block_lt_of_cell? _ _ h.2.1
 refine ⟨(World.cell?_of_block (hg.block _ l1 (fun e => ?_))).trans h.1, (World.cell?_of_block (hg.block _ l2 (fun e => ?_))).trans h.2.1, h.2.2.trans ⟨hg.os, hg.tape, hg.output, hg.size, fun k hk => hg.block k (by omega) (fun e => ?_)⟩⟩
 ·have := hr _ e.symm; change w.heap.size + 1 < w.heap.size at this; omega
 ·have := hr _ e.symm; change w.heap.size + 1 < w.heap.size + 1 at this; omega
 ·have := hr _ e.symm; omega
theorem next_held_drew {w W : World} {a b : Addr} {u v : Value} (h : W.cell? a = some u ∧ W.cell? b = some v ∧ Below w.heap.size w W) : W.drew.cell? a = some u ∧ W.drew.cell? b = some v ∧ Below w.heap.size w W.drew := ⟨h.1, h.2.1, below_drew h.2.2⟩
theorem next_held_start (w : World) (u v : Value) (t t' : TypeId) : ((w.alloc (.cells #[u] t)).alloc (.cells #[v] t')).cell? ⟨w.heap.size, 0, none⟩ = some u ∧ ((w.alloc (.cells #[u] t)).alloc (.cells #[v] t')).cell? ⟨w.heap.size + 1, 0, none⟩ = some v ∧ Below w.heap.size w ((w.alloc (.cells #[u] t)).alloc (.cells #[v] t')) := by
 refine ⟨?_, ?_, below_alloc (below_alloc (Below.refl _ _) _) _⟩
 ·rw [World.cell?_alloc_past _ _ _ (by simp), World.cell?_alloc_at _ _ _ _ rfl]; rfl
 ·rw [World.cell?_alloc_at _ _ _ _ (by simp)]; rfl
set_option maxHeartbeats 8000000 in
set_option maxRecDepth 100000 in
theorem impl_Poset_next.calls (k : Nat) (A0_0 : Option Addr) (c0_0 : Nat) (l0_0 : List Int) (a1 : Int) (r : List Int) (w : World) (hr0_0 : Kd.C (Kd.int .i64) w A0_0 l0_0.length l0_0) (hc0_0 : l0_0.length ≤ c0_0) (h : impl_Poset_next.f k l0_0 a1 = some r) :
    Calls Try.prog 115 #[.agg #[.slice A0_0 l0_0.length c0_0], .int .i64 a1] w fun e w' => ∃ v0_ : Value, e = .returned (v0_) ∧ Kd.R (Kd.int .i64) 3 w' w.heap.size (fun _ => True) v0_ r ∧ Below w.heap.size w w' := by
  unfold impl_Poset_next.f at h
  obtain ⟨t, hall, h⟩ := Option.bind_eq_some_iff.1 h
  obtain ⟨l, hit, h⟩ := Option.bind_eq_some_iff.1 h
  split at h
  rotate_left
  · cases h
  rename_i hin
  have HF := am (Option.some.inj h)
  have HALL := am hall
  have HIT := am hit
  have HIN := am hin
  have HR := am hr0_0
  have HC := am hc0_0
  have HL : Aside0 (∀ ad, A0_0 = some ad → ad.block < w.heap.size) := ⟨fun ad e => by
    obtain ⟨ad', e', hc⟩ := Kd.at_int hr0_0 0 (by omega) (by have := hin.2.1; omega)
    rw [e] at e'
    obtain rfl := Option.some.inj e'
    have := World.block_lt_of_cell? w _ hc
    unfold Addr.add at this
    split at this <;> exact this⟩
  have hmf : ∀ (fn : Fn) (first cap : Array Value) (w : World), (Instr.makeFunc fn first cap).run Try.prog w = .ok (.func fn first cap) w := fun _ _ _ _ => rfl
  clear h hall hit hin hr0_0 hc0_0
  go_enter Try.func115, Try.ntmps115
  go_wp2_with (fail)
  go_region_held3 (fun w' => w'.cell? ⟨w.heap.size, 0, none⟩ = some (.slice A0_0 l0_0.length c0_0) ∧ w'.cell? ⟨w.heap.size + 1, 0, none⟩ = some (.int .i64 a1) ∧ Below w.heap.size w w')
    (first | exact next_held_grown (by assumption) hgr hrow_.out | exact next_held_call (by assumption) hb1 | exact next_held_drew (by assumption) | exact next_held_start _ _ _ _ _ | exact next_held_drew (next_held_start _ _ _ _ _) | go_keep)
    (first | (go_at_call 114; (with_reducible refine (impl_Poset_all.calls _ _ l0_0 t _ (Kd.C_below HR.out (by go_split_ands; assumption)) HC.out HALL.out).mono ?_); rintro e w1 ⟨rfl, hb1⟩)
           | (go_at_call 102; (with_reducible refine (impl_items.calls k _ l _ HIT.out).mono ?_); rintro e w1 ⟨v, rfl, ho, hb1⟩; have hlt_ := am (next_held_lt (a := ⟨w.heap.size, 0, none⟩) (b := ⟨w.heap.size + 1, 0, none⟩) (w := w) (by assumption) hb1); have HO := am ho; clear ho)
           | (go_at_call 145; (with_reducible refine (next_any w.heap.size (w.heap.size + 1) v l A0_0 c0_0 l0_0 a1 _ ?_ ?r1 HIN.out ?p1 ?s1 ?c1 ?n1 ?n2 ?n3).mono ?_); (case r1 => (with_reducible repeat (first | apply Kd.R_drew | apply Kd.R_drewN)); exact HO.out); (case p1 => go_split_ands; assumption); (case s1 => go_split_ands; assumption); (case c1 => exact Kd.C_below HR.out (by go_split_ands; assumption)); (case n1 => have := hlt_.out.1; show w.heap.size < _; exact Nat.lt_of_succ_lt this); (case n2 => exact hlt_.out.1); (case n3 => intro ad e_; have := HL.out ad e_; have := hlt_.out.2; omega); rintro e w2 ⟨v2, rfl, ho2, hgr⟩; have hrow_ := am (next_held_row HO.out hlt_.out.1); have HO2 := am ho2; clear ho2))
  all_goals
    go_wp2
    go_ret
    have HO3 := HO2.out
    rw [HF.out] at HO3
    refine ⟨_, rfl, Kd.R_lower HO3 hlt_.out.2, by go_split_ands; assumption⟩
end Go.Proofs.Ytmbojobkiainlaa.F
end

section
namespace Go.Proofs.Ytmbojobkiainlaa.F
open Go.RowKit Go.Proofs.YtmbojobkiainlaaW.PrintWords Go.Proofs.YtmbojobkiainlaaW.PrintLast Go.Proofs.YtmbojobkiainlaaW.PrintMore
attribute [local go_sem] max2_int min2_int max_two min_two max_three min_three max_four min_four
set_option linter.unusedVariables false
set_option linter.unusedSimpArgs false
mutual
def impl_LinearWith.l0 : Nat → Int → List Int → List Int → Int → List Int → Option (List Int × Bool)
 | 0, _, _, _, _, _ => none
 | k + 1, x1, x6, x7, x8, x973000 => (impl_Poset_all.f x973000).bind fun t982 => (if x8 = t982 then (some (x7, true)) else ((impl_Poset_next.f k x973000 x8).bind fun t983 => (impl_LinearWith.l1 k x1 x6 x7 x8 t983 (t983.length : Int) 0 x973000)))
def impl_LinearWith.l1 : Nat → Int → List Int → List Int → Int → List Int → Int → Int → List Int → Option (List Int × Bool)
 | 0, _, _, _, _, _, _, _, _ => none
 | k + 1, x1, x6, x7, x8, x31, x32, x33, x973000 => if x33 < x32 then (if 0 ≤ x33 then (if x33 < (x31.length : Int) then (if 0 ≤ (rd x31 x33) then (if 0 ≤ (Go.bits .or .i64 x8 (shl .i64 1 (rd x31 x33))) then (if (Go.bits .or .i64 x8 (shl .i64 1 (rd x31 x33))) < (x6.length : Int) then (if x1 < (rd x6 (Go.bits .or .i64 x8 (shl .i64 1 (rd x31 x33)))) then (if x7.length < 17592186044416 then (impl_LinearWith.l0 k x1 x6 (x7 ++ [rd x31 x33]) (Go.bits .or .i64 x8 (shl .i64 1 (rd x31 x33))) x973000) else (none)) else (impl_LinearWith.l1 k (wrap64 (x1 - (rd x6 (Go.bits .or .i64 x8 (shl .i64 1 (rd x31 x33)))))) x6 x7 x8 x31 x32 (wrap64 (x33 + 1)) x973000)) else (none)) else (none)) else (none)) else (none)) else (none)) else (impl_LinearWith.l0 k x1 x6 x7 x8 x973000)
end
def impl_LinearWith.f (k : Nat) (l0_0 : List Int) (a1 : Int) : Option (List Int × Bool) := (impl_IsPoset.f k l0_0).bind fun t973 => (if t973 = true then ((impl_Poset_ways.f k l0_0).bind fun t974 => (if 0 < (t974.length : Int) then ((impl_within.f a1 0 (wrap64 ((rd t974 0) - 1))).bind fun t978 => (if t978 = true then (impl_LinearWith.l0 k a1 t974 (([] : List Int)) 0 l0_0) else (some (([] : List Int), false)))) else (none))) else (some (([] : List Int), false)))
theorem impl_LinearWith.mono_l : ∀ k, (∀ y0 y1 y2 y3 y4, LeO (impl_LinearWith.l0 k y0 y1 y2 y3 y4) (impl_LinearWith.l0 (k + 1) y0 y1 y2 y3 y4)) ∧ (∀ y0 y1 y2 y3 y4 y5 y6 y7, LeO (impl_LinearWith.l1 k y0 y1 y2 y3 y4 y5 y6 y7) (impl_LinearWith.l1 (k + 1) y0 y1 y2 y3 y4 y5 y6 y7))
 | 0 => ⟨fun _ _ _ _ _ r h => by simp [impl_LinearWith.l0] at h, fun _ _ _ _ _ _ _ _ r h => by simp [impl_LinearWith.l1] at h⟩
 | k + 1 => by
  obtain ⟨ih0, ih1⟩ := impl_LinearWith.mono_l k
  refine ⟨?_, ?_⟩
  ·intro y0 y1 y2 y3 y4
   unfold impl_LinearWith.l0
   repeat' first
   | (with_reducible exact impl_IsPoset.mono _ _)
   | (with_reducible exact impl_Poset_next.mono _ _ _)
   | (with_reducible exact impl_Poset_ways.mono _ _)
   | (with_reducible exact LeO.refl _)
   | (with_reducible exact LeO.none _)
   | (with_reducible refine LeO.ite ?_ ?_)
   | (with_reducible refine LeO.bind ?_ (fun _ => ?_))
   | exact ih0 _ _ _ _ _
   | exact ih1 _ _ _ _ _ _ _ _
   | exact impl_IsPoset.mono _ _
   | exact impl_Poset_next.mono _ _ _
   | exact impl_Poset_ways.mono _ _
   | exact LeO.none _
   | refine LeO.ite ?_ ?_
   | refine LeO.bind ?_ (fun _ => ?_)
  ·intro y0 y1 y2 y3 y4 y5 y6 y7
   unfold impl_LinearWith.l1
   repeat' first
   | (with_reducible exact impl_IsPoset.mono _ _)
   | (with_reducible exact impl_Poset_next.mono _ _ _)
   | (with_reducible exact impl_Poset_ways.mono _ _)
   | (with_reducible exact LeO.refl _)
   | (with_reducible exact LeO.none _)
   | (with_reducible refine LeO.ite ?_ ?_)
   | (with_reducible refine LeO.bind ?_ (fun _ => ?_))
   | exact ih0 _ _ _ _ _
   | exact ih1 _ _ _ _ _ _ _ _
   | exact impl_IsPoset.mono _ _
   | exact impl_Poset_next.mono _ _ _
   | exact impl_Poset_ways.mono _ _
   | exact LeO.none _
   | refine LeO.ite ?_ ?_
   | refine LeO.bind ?_ (fun _ => ?_)
theorem impl_LinearWith.mono : ∀ a0 a1 k, LeO (impl_LinearWith.f k a0 a1) (impl_LinearWith.f (k + 1) a0 a1) := by
 intro a0 a1 k
 obtain ⟨ih0, ih1⟩ := impl_LinearWith.mono_l k
 unfold impl_LinearWith.f
 repeat' first
  | (with_reducible exact impl_IsPoset.mono _ _)
  | (with_reducible exact impl_Poset_next.mono _ _ _)
  | (with_reducible exact impl_Poset_ways.mono _ _)
  | (with_reducible exact LeO.refl _)
  | (with_reducible exact LeO.none _)
  | (with_reducible refine LeO.ite ?_ ?_)
  | (with_reducible refine LeO.bind ?_ (fun _ => ?_))
  | exact ih0 _ _ _ _ _
  | exact ih1 _ _ _ _ _ _ _ _
  | exact impl_IsPoset.mono _ _
  | exact impl_Poset_next.mono _ _ _
  | exact impl_Poset_ways.mono _ _
  | exact LeO.none _
  | refine LeO.ite ?_ ?_
  | refine LeO.bind ?_ (fun _ => ?_)
def impl_LinearWith.T13 : Bool × List (List Nat × List Nat) := (true, [([], []), ([], []), ([1], [1]), ([0, 2], [0, 2]), ([], []), ([], []), ([5], [5]), ([4, 6], [4, 6]), ([3, 3, 0, 1, 2, 3], [0, 3]), ([7, 8, 0, 1, 2, 3, 4, 5, 6, 7, 8], [4, 7])])
def impl_LinearWith.B13 : List Nat := [0, 0, 2, 7, 0, 0, 32, 112, 15, 511]
theorem impl_LinearWith.tab13 : rtab .any (opsOf Try.f53 13) = impl_LinearWith.T13 := by kernel_rfl
theorem impl_LinearWith.bits13 : waitsOk impl_LinearWith.T13.2 impl_LinearWith.B13 = true := by kernel_rfl
set_option maxHeartbeats 8000000 in
set_option maxRecDepth 100000 in
theorem impl_LinearWith.calls (k : Nat) (A0_0 : Option Addr) (c0_0 : Nat) (l0_0 : List Int) (a1 : Int) (r1 : List Int) (r2 : Bool) (w : World) (hr0_0 : Kd.C (Kd.int .i64) w A0_0 l0_0.length l0_0) (hc0_0 : l0_0.length ≤ c0_0) (h : impl_LinearWith.f k l0_0 a1 = some (r1, r2)) :
 Calls Try.prog 53 #[.agg #[.slice A0_0 l0_0.length c0_0], .int .i64 a1] w fun e w' => ∃ v0_ : Value, e = .returned (.tuple #[v0_, .bool r2]) ∧ Kd.R (Kd.int .i64) 3 w' w.heap.size (fun _ => True) v0_ r1 ∧ Below w.heap.size w w' := by
 have hu26 := Try.underlying26
 have HR0_0 := am hr0_0
 have HC0_0 := am hc0_0
 clear hr0_0 hc0_0
 have HB := am (Below.refl w.heap.size w)
 have H : ((impl_IsPoset.f k l0_0).bind fun t973 => (if t973 = true then ((impl_Poset_ways.f k l0_0).bind fun t974 => (if 0 < (t974.length : Int) then ((impl_within.f a1 0 (wrap64 ((rd t974 0) - 1))).bind fun t978 => (if t978 = true then (impl_LinearWith.l0 k a1 t974 (([] : List Int)) 0 l0_0) else (some (([] : List Int), false)))) else (none))) else (some (([] : List Int), false)))) = some (r1, r2) := h
 clear h
 replace H := Option.bind_eq_some_iff.mp H
 obtain ⟨t973, A30, H⟩ := H
 replace H : (if t973 = true then ((impl_Poset_ways.f k l0_0).bind fun t974 => (if 0 < (t974.length : Int) then ((impl_within.f a1 0 (wrap64 ((rd t974 0) - 1))).bind fun t978 => (if t978 = true then (impl_LinearWith.l0 k a1 t974 (([] : List Int)) 0 l0_0) else (some (([] : List Int), false)))) else (none))) else (some (([] : List Int), false))) = some (r1, r2) := H
 have A3 := am A30
 clear A30
 by_cases c4 : t973 = true
 ·subst c4
  have H1 : ((impl_Poset_ways.f k l0_0).bind fun t974 => (if 0 < (t974.length : Int) then ((impl_within.f a1 0 (wrap64 ((rd t974 0) - 1))).bind fun t978 => (if t978 = true then (impl_LinearWith.l0 k a1 t974 (([] : List Int)) 0 l0_0) else (some (([] : List Int), false)))) else (none))) = some (r1, r2) := by rw [if_pos rfl] at H; exact H
  clear H
  have H := H1
  clear H1
  replace H := Option.bind_eq_some_iff.mp H
  obtain ⟨t974, A50, H⟩ := H
  replace H : (if 0 < (t974.length : Int) then ((impl_within.f a1 0 (wrap64 ((rd t974 0) - 1))).bind fun t978 => (if t978 = true then (impl_LinearWith.l0 k a1 t974 (([] : List Int)) 0 l0_0) else (some (([] : List Int), false)))) else (none)) = some (r1, r2) := H
  have A5 := am A50
  clear A50
  by_cases c6 : 0 < (t974.length : Int)
  rotate_left
  ·rw [if_neg c6] at H
   exact absurd H (by simp)
  rw [if_pos c6] at H
  have c6b0 := decide_eq_true c6
  have c6b1 : decide (0 < t974.length) = true := decide_eq_true (by omega)
  clear c6
  replace H := Option.bind_eq_some_iff.mp H
  obtain ⟨t978, A70, H⟩ := H
  replace H : (if t978 = true then (impl_LinearWith.l0 k a1 t974 (([] : List Int)) 0 l0_0) else (some (([] : List Int), false))) = some (r1, r2) := H
  have A7 := am A70
  clear A70
  by_cases c8 : t978 = true
  ·subst c8
   have H1 : (impl_LinearWith.l0 k a1 t974 (([] : List Int)) 0 l0_0) = some (r1, r2) := by rw [if_pos rfl] at H; exact H
   clear H
   have H := H1
   clear H1
   obtain ⟨y979, hy979⟩ : ∃ y_ : List Int, y_ = (([] : List Int)) := ⟨_, rfl⟩
   replace H : (impl_LinearWith.l0 k a1 t974 y979 0 l0_0) = some (r1, r2) := by first | (rw [hy979]; with_reducible exact H) | (have H2_ := (Option.bind_some _ _).symm.trans H; rw [hy979]; with_reducible exact H2_) | (have H2_ := (Option.bind_some _ _).symm.trans H; with_reducible exact H2_) | with_reducible exact H | (rw [hy979]; exact H) | exact H
   have Ny979 := am hy979
   clear hy979
   have H' := am H
   clear H
   go_enter Try.func53, Try.ntmps53
   go_wp2_with (first | ((with_reducible refine gate_dst (N := 2) rfl ?_); refine qx (N := 2) (cs := #[.slice A0_0 l0_0.length c0_0]) (t := 26) ?_; intro gb972 hg w9 hbox hb; have n0_ := am (below_step qB hb); have BK972 := am (hbox); have GW972 := am (qg w hg); have GE972 := am (qg w hg); clear HB; have HB := n0_; clear n0_; clear hb hbox hg; have hcz10_0 := qz w9 BK972.out; have hfz10_0 := blk_frozen BK972.out 0) | ((with_reducible refine gate_callee (f := 40) rfl ?_); refine gL (some 13) Try.func40 #[.agg #[.slice A0_0 l0_0.length c0_0]] ?_; (with_reducible refine (impl_IsPoset.calls k _ _ l0_0 true _ ?side1 ?side2 A3.out).mono ?_); (case side1 => exact qC (Kd.C_below HR0_0.out HB.out)); (case side2 => exact HC0_0.out); rintro e w11 ⟨rfl, hb⟩; refine ⟨_, rfl, ?_⟩; replace BK972 := am (blk_below (g := gb972) (o := .cells #[.slice A0_0 l0_0.length c0_0] 26 (0, 0)) (qb BK972.out) hb); replace HB := am (below_step qB hb); (try clear hb); (try clear hb2); (try clear hk); (try clear hi); have hcz12_0 := qz w11 BK972.out; have hfz12_0 := blk_frozen BK972.out 0) | ((with_reducible refine gate_callee (f := 113) rfl ?_); refine gL (some 16) Try.func113 #[.agg #[.slice A0_0 l0_0.length c0_0]] ?_; (with_reducible refine (impl_Poset_ways.calls k _ _ l0_0 t974 _ ?side1 ?side2 A5.out).mono ?_); (case side1 => exact qC (Kd.C_below HR0_0.out HB.out)); (case side2 => exact HC0_0.out); rintro e w13 ⟨v975, rfl, ho0, hb⟩; refine ⟨_, rfl, ?_⟩; have HO976 := am (Kd.R_lower ho0 (below_size qB)); replace BK972 := am (blk_below (g := gb972) (o := .cells #[.slice A0_0 l0_0.length c0_0] 26 (0, 0)) (qb BK972.out) hb); replace HB := am (below_step qB hb); (try clear hb); (try clear hb2); (try clear hk); (try clear hi); (try clear ho0); obtain ⟨Ao14, co14, eo14⟩ := Kd.R_slice HO976.out; subst eo14; have p977 : 0 ≤ (0 : Int) := (by omega); have q977 : 0 < (t974.length : Int) := qd; obtain ⟨ad977, e977, hx977_0⟩ := Kd.at_int (Kd.R_reads' HO976.out).2.2 0 p977 q977; cases e977; have qi977 : (0 < t974.length) = True := eq_true (by omega); (try rw [show ((0 : Int)).toNat = 0 from rfl] at hx977_0); (try rw [Addr.add_zero'] at hx977_0); replace p977 := eq_true p977; replace q977 := eq_true q977) | ((with_reducible refine gate_callee (f := 72) rfl ?_); refine gL (some 22) Try.func72 #[.int .i64 a1, .int .i64 0, .int .i64 (wrap64 ((rd t974 0) - 1))] ?_; (with_reducible refine (impl_within.calls a1 0 (wrap64 ((rd t974 0) - 1)) true _ A7.out).mono ?_); rintro e w' ⟨rfl, ⟨nd, rfl⟩⟩; refine ⟨_, rfl, ?_⟩) | ((with_reducible refine gate_dst (N := 24) rfl ?_); refine Kd.R_lit (Kd.int .i64) _ 3 ?hg (N := 24) ?hd (xs := ([] : List Int)) (inner := []) (ok := fun _ => True) (okp := fun _ => True) ?hr ?hp (fun _ hk => hk) trivial (Below.refl _ _) (Nat.le_refl _) (by simp) ?_; (case hd => rfl); (case hg => rfl); (case hr => first | (go_simp; done) | (go_simp; rfl)); (case hp => exact (Reps.none _ _)); intro v980 w15 ho16 hb hg_ hnew_; clear hg_ hnew_; (first | rw [← Ny979.out] at ho16 | (simp only [Int.reduceToNat] at ho16; rw [← Ny979.out] at ho16)); have n0_ := am (Kd.R_elder' (qR HO976.out) (Kd.R_base ho16) hb); have HO981 := am (Kd.R_lower (Kd.R_new' ho16 (Kd.R_lt (qR HO976.out))) (below_size qB)); replace BK972 := am (blk_below (g := gb972) (o := .cells #[.slice A0_0 l0_0.length c0_0] 26 (0, 0)) (qb BK972.out) hb); replace HB := am (below_step qB hb); clear HO976; have HO976 := n0_; clear n0_; clear hb ho16))
   go_loopg [1, 7, 8] k (fun kq v1 v7 v8 w' => ∃ (x1_1 : Int) (x7_1 : List Int) (x8_1 : Int), v1 = .int .i64 x1_1 ∧ v8 = .int .i64 x8_1 ∧ Aside0 (impl_LinearWith.l0 kq x1_1 t974 x7_1 x8_1 l0_0 = some (r1, r2)) ∧ Aside0 (kq ≤ k) ∧ Aside0 (Kd.R (Kd.int .i64) 3 w' w.heap.size (fun k_ => some k_ ≠ (v7 : Value).ownBlock) (.slice (some ad977) t974.length co14) t974) ∧ Aside0 (Kd.R (Kd.int .i64) 3 w' w.heap.size (fun k_ => some k_ ≠ ((.slice (some ad977) t974.length co14) : Value).ownBlock) v7 x7_1) ∧ Aside0 (w'.heap[gb972]? = some (.cells #[(.slice A0_0 l0_0.length c0_0)] 26 (0, 0))) ∧ Aside0 (Below w.heap.size w w'))
   case atStart => exact ⟨(a1), (y979), (0), qe, qe, H', ⟨Nat.le_refl _⟩, ⟨qR (Kd.R_mono HO976.out (fun _ hk => hk.2))⟩, ⟨qR (Kd.R_mono HO981.out (fun _ hk => hk.2))⟩, ⟨qb BK972.out⟩, ⟨qB⟩⟩
   case round =>
    clear H'
    try clear c1
    try clear p2
    try clear c4
    try clear c5
    try clear c6
    try clear c6b0
    try clear c6b1
    try clear p6
    try clear c7
    try clear c8
    try clear p9
    try clear q9
    try clear hx9
    try clear qi9
    try clear c11
    try clear hcz10_0
    try clear hcz12_0
    try clear hfz10_0
    try clear hfz12_0
    try clear hx977_0
    try clear p977
    try clear q977
    obtain ⟨x1_1, x7_1, x8_1, rfl, rfl, HA, HK1, HO_6, HO_7, BK972, HB⟩ := hrel
    cases gk with
    | zero => exact absurd HA.out (by simp [impl_LinearWith.l0])
    | succ k1 =>
     have H := HA.out
     clear HA
     simp only [impl_LinearWith.l0] at H
     replace H := Option.bind_eq_some_iff.mp H
     obtain ⟨t982, A170, H⟩ := H
     replace H : (if x8_1 = t982 then (some (x7_1, true)) else ((impl_Poset_next.f k1 l0_0 x8_1).bind fun t983 => (impl_LinearWith.l1 k1 x1_1 t974 x7_1 x8_1 t983 (t983.length : Int) 0 l0_0))) = some (r1, r2) := H
     have A17 := am A170
     clear A170
     by_cases c18 : x8_1 = t982
     ·rw [if_pos c18] at H
      have c18b0 : (x8_1 == t982) = true := beq_iff_eq.mpr c18
      have c18b1 : (x8_1 != t982) = false := bne_eq_false_iff_eq.mpr c18
      clear c18
      simp only [Option.some.injEq, Prod.mk.injEq] at H
      obtain ⟨rfl, rfl⟩ := H
      have hcz19_0 := qz wr BK972.out
      have hfz19_0 := blk_frozen BK972.out 0
      go_wp2_with (first | ((with_reducible refine gate_callee (f := 114) rfl ?_); refine gL (some 27) Try.func114 #[.agg #[.slice A0_0 l0_0.length c0_0]] ?_; (with_reducible refine (impl_Poset_all.calls _ _ l0_0 t982 _ ?side1 ?side2 A17.out).mono ?_); (case side1 => exact qC (Kd.C_below HR0_0.out HB.out)); (case side2 => exact HC0_0.out); rintro e w20 ⟨rfl, hb⟩; refine ⟨_, rfl, ?_⟩; replace HO_6 := am (Kd.R_below (qR HO_6.out) hb); replace HO_7 := am (Kd.R_below (qR HO_7.out) hb); replace BK972 := am (blk_below (g := gb972) (o := .cells #[.slice A0_0 l0_0.length c0_0] 26 (0, 0)) (qb BK972.out) hb); replace HB := am (below_step qB hb); (try clear hb); (try clear hb2); (try clear hk); (try clear hi)))
      go_ret2
      exact ⟨_, qr, qR (Kd.R_mono HO_7.out (fun _ hk => trivial)), qB⟩
     ·rw [if_neg c18] at H
      have c18b0 : (x8_1 == t982) = false := beq_eq_false_iff_ne.mpr c18
      have c18b1 : (x8_1 != t982) = true := bne_iff_ne.mpr c18
      replace H := Option.bind_eq_some_iff.mp H
      obtain ⟨t983, A210, H⟩ := H
      replace H : (impl_LinearWith.l1 k1 x1_1 t974 x7_1 x8_1 t983 (t983.length : Int) 0 l0_0) = some (r1, r2) := H
      have A21 := am A210
      clear A210
      have H' := am H
      clear H
      have hcz22_0 := qz wr BK972.out
      have hfz22_0 := blk_frozen BK972.out 0
      go_wp2_with (first | ((with_reducible refine gate_callee (f := 114) rfl ?_); refine gL (some 27) Try.func114 #[.agg #[.slice A0_0 l0_0.length c0_0]] ?_; (with_reducible refine (impl_Poset_all.calls _ _ l0_0 t982 _ ?side1 ?side2 A17.out).mono ?_); (case side1 => exact qC (Kd.C_below HR0_0.out HB.out)); (case side2 => exact HC0_0.out); rintro e w23 ⟨rfl, hb⟩; refine ⟨_, rfl, ?_⟩; replace HO_6 := am (Kd.R_below (qR HO_6.out) hb); replace HO_7 := am (Kd.R_below (qR HO_7.out) hb); replace BK972 := am (blk_below (g := gb972) (o := .cells #[.slice A0_0 l0_0.length c0_0] 26 (0, 0)) (qb BK972.out) hb); replace HB := am (below_step qB hb); (try clear hb); (try clear hb2); (try clear hk); (try clear hi); have hcz24_0 := qz w23 BK972.out; have hfz24_0 := blk_frozen BK972.out 0) | ((with_reducible refine gate_callee (f := 115) rfl ?_); refine gL (some 31) Try.func115 #[.agg #[.slice A0_0 l0_0.length c0_0], .int .i64 x8_1] ?_; (with_reducible refine (impl_Poset_next.calls k1 _ _ l0_0 x8_1 t983 _ ?side1 ?side2 A21.out).mono ?_); (case side1 => exact qC (Kd.C_below HR0_0.out HB.out)); (case side2 => exact HC0_0.out); rintro e w25 ⟨v984, rfl, ho0, hb⟩; refine ⟨_, rfl, ?_⟩; have n0_ := am (Kd.R_elder' (qR HO_6.out) (Kd.R_base ho0) hb); have n1_ := am (Kd.R_elder' (qR HO_7.out) (Kd.R_base ho0) hb); have HO985 := am (Kd.R_lower (Kd.R_new' (Kd.R_new' ho0 (Kd.R_lt (qR HO_6.out))) (Kd.R_lt (qR HO_7.out))) (below_size qB)); replace BK972 := am (blk_below (g := gb972) (o := .cells #[.slice A0_0 l0_0.length c0_0] 26 (0, 0)) (qb BK972.out) hb); replace HB := am (below_step qB hb); clear HO_6 HO_7; have HO_6 := n0_; have HO_7 := n1_; clear n0_ n1_; (try clear hb); (try clear hb2); (try clear hk); (try clear hi); (try clear ho0); obtain ⟨Ao26, co26, eo26⟩ := Kd.R_slice HO985.out; subst eo26))
      go_loopg [1, 7, 8, 33] k1 (fun kq v1 v7 v8 v33 w' => ∃ (x1_2 : Int) (x7_2 : List Int) (x8_2 : Int) (x33_2 : Int), v1 = .int .i64 x1_2 ∧ v8 = .int .i64 x8_2 ∧ v33 = .int .i64 x33_2 ∧ Aside0 (impl_LinearWith.l1 kq x1_2 t974 x7_2 x8_2 t983 (t983.length : Int) x33_2 l0_0 = some (r1, r2)) ∧ Aside0 (kq ≤ k1) ∧ Aside0 (Kd.R (Kd.int .i64) 3 w' w.heap.size (fun k_ => some k_ ≠ (v7 : Value).ownBlock ∧ some k_ ≠ ((.slice Ao26 t983.length co26) : Value).ownBlock) (.slice (some ad977) t974.length co14) t974) ∧ Aside0 (Kd.R (Kd.int .i64) 3 w' w.heap.size (fun k_ => some k_ ≠ ((.slice (some ad977) t974.length co14) : Value).ownBlock ∧ some k_ ≠ ((.slice Ao26 t983.length co26) : Value).ownBlock) v7 x7_2) ∧ Aside0 (Kd.R (Kd.int .i64) 3 w' w.heap.size (fun k_ => some k_ ≠ ((.slice (some ad977) t974.length co14) : Value).ownBlock ∧ some k_ ≠ (v7 : Value).ownBlock) (.slice Ao26 t983.length co26) t983) ∧ Aside0 (w'.heap[gb972]? = some (.cells #[(.slice A0_0 l0_0.length c0_0)] 26 (0, 0))) ∧ Aside0 (Below w.heap.size w w'))
      case atStart => exact ⟨(x1_1), (x7_1), (x8_1), (0), qe, qe, qe, H', ⟨Nat.le_refl _⟩, ⟨qR HO_6.out⟩, ⟨qR HO_7.out⟩, ⟨qR (Kd.R_mono HO985.out (fun _ hk => ⟨hk.1.2, hk.2⟩))⟩, ⟨qb BK972.out⟩, ⟨qB⟩⟩
      case round =>
       clear H'
       try clear c1
       try clear p2
       try clear c4
       try clear c5
       try clear c6
       try clear c6b0
       try clear c6b1
       try clear p6
       try clear c7
       try clear c8
       try clear p9
       try clear q9
       try clear hx9
       try clear qi9
       try clear c11
       try clear c18
       try clear c18b0
       try clear c18b1
       try clear hcz10_0
       try clear hcz12_0
       try clear hcz19_0
       try clear hcz22_0
       try clear hcz24_0
       try clear hfz10_0
       try clear hfz12_0
       try clear hfz19_0
       try clear hfz22_0
       try clear hfz24_0
       try clear hx977_0
       try clear p2
       try clear p6
       try clear p9
       try clear p977
       try clear q9
       try clear q977
       obtain ⟨x1_2, x7_2, x8_2, x33_2, rfl, rfl, rfl, HA, HK2, HO_6, HO_7, HO_31, BK972, HB⟩ := hrel
       cases gk with
       | zero => exact absurd HA.out (by simp [impl_LinearWith.l1])
       | succ k2 =>
        have H := HA.out
        clear HA
        simp only [impl_LinearWith.l1] at H
        by_cases c27 : x33_2 < (t983.length : Int)
        ·rw [if_pos c27] at H
         have c27b0 := decide_eq_true c27
         clear c27
         by_cases c28 : 0 ≤ x33_2
         rotate_left
         ·rw [if_neg c28] at H
          exact absurd H (by simp)
         rw [if_pos c28] at H
         have c28b0 := decide_eq_true c28
         clear c28
         by_cases c29 : x33_2 < (t983.length : Int)
         rotate_left
         ·rw [if_neg c29] at H
          exact absurd H (by simp)
         rw [if_pos c29] at H
         have c29b0 := decide_eq_true c29
         clear c29
         by_cases c30 : 0 ≤ (rd t983 x33_2)
         rotate_left
         ·rw [if_neg c30] at H
          exact absurd H (by simp)
         rw [if_pos c30] at H
         have c30b0 := eq_true c30
         have c30b1 := decide_eq_true c30
         clear c30
         obtain ⟨ji31, hji31⟩ : ∃ j_ : Int, (shl .i64 1 (rd t983 x33_2)) = j_ := ⟨_, rfl⟩
         replace H : (if 0 ≤ (Go.bits .or .i64 x8_2 (ji31)) then (if (Go.bits .or .i64 x8_2 (ji31)) < (t974.length : Int) then (if x1_2 < (rd t974 (Go.bits .or .i64 x8_2 (ji31))) then (if x7_2.length < 17592186044416 then (impl_LinearWith.l0 k2 x1_2 t974 (x7_2 ++ [rd t983 x33_2]) (Go.bits .or .i64 x8_2 (ji31)) l0_0) else (none)) else (impl_LinearWith.l1 k2 (wrap64 (x1_2 - (rd t974 (Go.bits .or .i64 x8_2 (ji31))))) t974 x7_2 x8_2 t983 (t983.length : Int) (wrap64 (x33_2 + 1)) l0_0)) else (none)) else (none)) = some (r1, r2) := by first | (rw [hji31] at H; exact H) | (simp only [hji31] at H ⊢; exact H)
         have hji31_ : (IntKind.i64.wrap (1 * 2 ^ min (rd t983 x33_2).toNat 64)) = ji31 := hji31
         have hji31z : (rd t983 x33_2) ≤ 64 → (IntKind.i64.wrap (1 * 2 ^ (rd t983 x33_2).toNat)) = ji31 := shl_small hji31
         have hji31u : (IntKind.i64.wrap (2 ^ min (rd t983 x33_2).toNat 64)) = ji31 := by have h_ := hji31_; rw [Int.one_mul] at h_; exact h_
         have hji31v : (rd t983 x33_2) ≤ 64 → (IntKind.i64.wrap (2 ^ (rd t983 x33_2).toNat)) = ji31 := fun hle_ => by have h_ := hji31z hle_; rw [Int.one_mul] at h_; exact h_
         have hji31y : (wrap64 (1 * 2 ^ min (rd t983 x33_2).toNat 64)) = ji31 := (i64_w _).symm.trans hji31_
         have hji31x : (rd t983 x33_2) ≤ 64 → (wrap64 (1 * 2 ^ (rd t983 x33_2).toNat)) = ji31 := fun h_ => (i64_w _).symm.trans (hji31z h_)
         by_cases c32 : 0 ≤ (Go.bits .or .i64 x8_2 (ji31))
         rotate_left
         ·rw [if_neg c32] at H
          exact absurd H (by simp)
         rw [if_pos c32] at H
         have c32b0 := decide_eq_true c32
         clear c32
         by_cases c33 : (Go.bits .or .i64 x8_2 (ji31)) < (t974.length : Int)
         rotate_left
         ·rw [if_neg c33] at H
          exact absurd H (by simp)
         rw [if_pos c33] at H
         have c33b0 := decide_eq_true c33
         clear c33
         by_cases c34 : x1_2 < (rd t974 (Go.bits .or .i64 x8_2 (ji31)))
         ·rw [if_pos c34] at H
          have c34b0 := decide_eq_true c34
          clear c34
          by_cases c35 : x7_2.length < 17592186044416
          rotate_left
          ·rw [if_neg c35] at H
           exact absurd H (by simp)
          rw [if_pos c35] at H
          have LMc35 := am c35
          clear c35
          obtain ⟨y988, hy988⟩ : ∃ y_ : List Int, y_ = (x7_2 ++ [rd t983 x33_2]) := ⟨_, rfl⟩
          replace H : (impl_LinearWith.l0 k2 x1_2 t974 y988 (Go.bits .or .i64 x8_2 (ji31)) l0_0) = some (r1, r2) := by first | (rw [hy988]; with_reducible exact H) | (have H2_ := (Option.bind_some _ _).symm.trans H; rw [hy988]; with_reducible exact H2_) | (have H2_ := (Option.bind_some _ _).symm.trans H; with_reducible exact H2_) | with_reducible exact H | (rw [hy988]; exact H) | exact H
          have Ny988 := am hy988
          clear hy988
          have c36b0 := eq_true (qd : 0 ≤ (rd t983 x33_2))
          have c37b0 := True.intro
          have H' := am H
          clear H
          have p986 : 0 ≤ (x33_2 : Int) := qd
          have q986 : x33_2 < (t983.length : Int) := qd
          obtain ⟨ad986, e986, hx986_0⟩ := Kd.at_int (Kd.R_reads' HO_31.out).2.2 x33_2 p986 q986
          cases e986
          replace p986 := eq_true p986
          replace q986 := eq_true q986
          have p987 : 0 ≤ ((Go.bits .or .i64 x8_2 (ji31)) : Int) := qd
          have q987 : (Go.bits .or .i64 x8_2 (ji31)) < (t974.length : Int) := qd
          obtain ⟨ad987, e987, hx987_0⟩ := Kd.at_int (Kd.R_reads' HO_6.out).2.2 (Go.bits .or .i64 x8_2 (ji31)) p987 q987
          obtain rfl : ad977 = ad987 := (by injection e987)
          replace p987 := eq_true p987
          replace q987 := eq_true q987
          try go_wp2
          have n0_ := am (Kd.R_drew HO_6.out)
          have n1_ := am (Kd.R_drew HO_7.out)
          have n2_ := am (Kd.R_drew HO_31.out)
          have n3_ := am (blk_drew BK972.out)
          have n4_ := am (below_drew1 HB.out)
          clear HO_6
          clear HO_7
          clear HO_31
          clear BK972
          clear HB
          have HO_6 := n0_
          have HO_7 := n1_
          have HO_31 := n2_
          have BK972 := n3_
          have HB := n4_
          clear n0_ n1_ n2_ n3_ n4_
          refine start_ (n := 10) (S := fun w' => True) (ds := []) #[false, false, false, false, false, false, false, false, false, false] (by kernel_rfl) rfl rfl trivial (fun hHeld => ?_); refine with_tabW impl_LinearWith.tab13 impl_LinearWith.bits13 (fun HT_ HW_ => ?_)
          generalize wr.drew = w38 at HO_6 HO_7 HO_31 BK972 HB hHeld ⊢
          refine pure_ (i := 0) (N := some 47) (v := ?_) (a' := ?_) #[true, false, false, false, false, false, false, false, false, false] rfl rfl (any_of HT_.out (by kernel_rfl)) (fun _ _ _ h => h) (Or.inl ⟨by rfl, ?_⟩) ?_ ?_
          rotate_left
          ·intro w'
           go_simp
           with_reducible rfl
          rotate_left
          ·exact qP
          refine pure_ (i := 1) (N := some 48) (v := ?_) (a' := ?_) #[true, true, false, false, false, false, false, false, false, false] rfl rfl (any_of HT_.out (by kernel_rfl)) (fun _ _ _ h => h) (Or.inl ⟨by rfl, ?_⟩) ?_ ?_
          rotate_left
          ·intro w'
           go_simp
           with_reducible rfl
          rotate_left
          ·exact qP
          refine pure_ (i := 4) (N := some 51) (v := ?_) (a' := ?_) #[true, true, false, false, true, false, false, false, false, false] rfl rfl (any_of HT_.out (by kernel_rfl)) (fun _ _ _ h => h) (Or.inl ⟨by rfl, ?_⟩) ?_ ?_
          rotate_left
          ·intro w'
           go_simp
           with_reducible rfl
          rotate_left
          ·exact qP
          refine pure_ (i := 5) (N := some 52) (v := ?_) (a' := ?_) #[true, true, false, false, true, true, false, false, false, false] rfl rfl (any_of HT_.out (by kernel_rfl)) (fun _ _ _ h => h) (Or.inl ⟨by rfl, ?_⟩) ?_ ?_
          rotate_left
          ·intro w'
           go_simp
           with_reducible rfl
          rotate_left
          ·exact qP
          refine pure_ (i := 6) (N := some 53) (v := ?_) (a' := ?_) #[true, true, false, false, true, true, true, false, false, false] rfl rfl (any_of HT_.out (by kernel_rfl)) (fun _ _ _ h => h) (Or.inl ⟨by rfl, ?_⟩) ?_ ?_
          rotate_left
          ·intro w'
           go_simp
           with_reducible rfl
          rotate_left
          ·exact qP
          refine pure_ (i := 7) (N := some 54) (v := ?_) (a' := ?_) #[true, true, false, false, true, true, true, true, false, false] rfl rfl (any_of HT_.out (by kernel_rfl)) (fun _ _ _ h => h) (Or.inl ⟨by rfl, ?_⟩) ?_ ?_
          rotate_left
          ·intro w'
           go_simp
           with_reducible rfl
          rotate_left
          ·exact qP
          refine one_ (i := 2) (N := some 49) #[true, true, true, false, true, true, true, true, false, false] rfl rfl (one_of HT_.out (by kernel_rfl)) (by decide) (fun K hK => ?_)
          refine value_ (w1 := ?_) (v := ?_) (by rfl) rfl ?_ ?_
          rotate_left 2
          ·go_simp
           constructor
           ·rfl
           ·rfl
          refine hK.out _ _ trivial (fun hHeld => ?_)
          clear hK K
          refine norm_ (a' := ?_) ?_ ?_
          rotate_left
          ·show Act.put _ (some 49) _ = _
           simp only [Act.put, List.setIfInBounds_toArray, List.set_cons_zero, List.set_cons_succ, i64_w, i32_w]
           rfl
          refine one_ (i := 3) (N := some 50) #[true, true, true, true, true, true, true, true, false, false] rfl rfl (one_of HT_.out (by kernel_rfl)) (by decide) (fun K hK => ?_)
          refine Kd.R_append_step (Kd.int .i64) (w0 := w) w.heap.size (by rfl) (.tmp 47) (.tmp 49) 24 3 (.int .i64 0) 8 rfl Try.underlying24 info3 rfl (by decide) (by omega) u7 x7_2 (rd t983 x33_2) [.int .i64 (rd t983 x33_2)] (fun k_ => some k_ ≠ (.slice (some ad977) t974.length co14 : Value).ownBlock ∧ some k_ ≠ (.slice (some ad986) t983.length co26 : Value).ownBlock) (fun _ => False) rfl rfl ?aP (fun _ hk => hk.elim) ?aF ?aO ?aB ?aS ?aL ?_
          (case aP => exact rfl)
          (case aB => exact qB)
          (case aF => exact (fun k_ hk => ⟨Kd.fresh' (Kd.R_lt (qR HO_6.out)) k_ hk, Kd.fresh' (Kd.R_lt (qR HO_31.out)) k_ hk⟩))
          (case aO => exact (qR HO_7.out))
          (case aS => exact (below_size qB))
          (case aL => have := LMc35.out; omega)
          intro v989 w39 ho hb hg hat
          rw [← Ny988.out] at ho
          have n0_ := am (Kd.R_after (ok := (fun k_ => some k_ ≠ (.slice (some ad986) t983.length co26 : Value).ownBlock)) (qR (Kd.R_mono HO_6.out (fun _ hk => ⟨hk.2, hk.1⟩))) hg hat)
          have n1_ := am (Kd.R_after (ok := (fun k_ => some k_ ≠ (.slice (some ad977) t974.length co14 : Value).ownBlock)) (qR HO_31.out) hg hat)
          have n2_ := am (blk_grown (g := gb972) (o := .cells #[.slice A0_0 l0_0.length c0_0] 26 (0, 0)) (qb BK972.out) hg (Kd.R_ne HO_7.out BK972.out (by decide)))
          have n3_ := am (hb)
          have n4_ := am (ho)
          clear HO_6
          clear HO_31
          clear BK972
          clear HB
          clear HO_7
          have HO_6 := n0_
          have HO_31 := n1_
          have BK972 := n2_
          have HB := n3_
          have HO990 := n4_
          clear n0_ n1_ n2_ n3_ n4_
          clear ho hb hg hat
          refine hK.out _ _ trivial (fun hHeld => ?_)
          clear hK K
          refine norm_ (a' := ?_) ?_ ?_
          rotate_left
          ·show Act.put _ (some 50) _ = _
           simp only [Act.put, List.setIfInBounds_toArray, List.set_cons_zero, List.set_cons_succ, i64_w, i32_w]
           rfl
          refine pure_ (i := 8) (N := some 7) (v := ?_) (a' := ?_) #[true, true, true, true, true, true, true, true, true, false] rfl rfl (any_of HT_.out (by kernel_rfl)) (fun _ _ _ h => h) (Or.inl ⟨by rfl, ?_⟩) ?_ ?_
          rotate_left
          ·intro w'
           go_simp
           with_reducible rfl
          rotate_left
          ·exact qP
          refine pure_ (i := 9) (N := some 8) (v := ?_) (a' := ?_) #[true, true, true, true, true, true, true, true, true, true] rfl rfl (any_of HT_.out (by kernel_rfl)) (fun _ _ _ h => h) (Or.inl ⟨by rfl, ?_⟩) ?_ ?_
          rotate_left
          ·intro w'
           go_simp
           with_reducible rfl
          rotate_left
          ·exact qP
          refine done_ (done_of HT_.out (by kernel_rfl)) ?_
          try go_wp2
          go_roundg k2
          case measure => have := HK1.out; have := HK2.out; omega
          case rel => exact ⟨(x1_2), (y988), (Go.bits .or .i64 x8_2 (ji31)), qe, (by first | rfl | (simp; done) | (simp only [← hji31] <;> (first | rfl | simp)) | (simp [*]; done)), H', ⟨by have := HK1.out; have := HK2.out; omega⟩, ⟨qR (Kd.R_mono HO_6.out (fun _ hk => hk.2))⟩, ⟨qR (Kd.R_mono HO990.out (fun _ hk => hk.1))⟩, ⟨qb BK972.out⟩, ⟨qB⟩⟩
         ·rw [if_neg c34] at H
          have c34b0 := decide_eq_false c34
          clear c34
          have H' := am H
          clear H
          have p986 : 0 ≤ (x33_2 : Int) := qd
          have q986 : x33_2 < (t983.length : Int) := qd
          obtain ⟨ad986, e986, hx986_0⟩ := Kd.at_int (Kd.R_reads' HO_31.out).2.2 x33_2 p986 q986
          cases e986
          replace p986 := eq_true p986
          replace q986 := eq_true q986
          have p987 : 0 ≤ ((Go.bits .or .i64 x8_2 (ji31)) : Int) := qd
          have q987 : (Go.bits .or .i64 x8_2 (ji31)) < (t974.length : Int) := qd
          obtain ⟨ad987, e987, hx987_0⟩ := Kd.at_int (Kd.R_reads' HO_6.out).2.2 (Go.bits .or .i64 x8_2 (ji31)) p987 q987
          obtain rfl : ad977 = ad987 := (by injection e987)
          replace p987 := eq_true p987
          replace q987 := eq_true q987
          go_wp2
          go_roundg k2
          case measure => have := HK1.out; have := HK2.out; omega
          case rel => exact ⟨(wrap64 (x1_2 - (rd t974 (Go.bits .or .i64 x8_2 (ji31))))), (x7_2), (x8_2), (wrap64 (x33_2 + 1)), (by first | rfl | (simp; done) | (simp only [← hji31] <;> (first | rfl | simp)) | (simp [*]; done)), qe, qe, H', ⟨by have := HK1.out; have := HK2.out; omega⟩, ⟨qR HO_6.out⟩, ⟨qR HO_7.out⟩, ⟨qR HO_31.out⟩, ⟨qb BK972.out⟩, ⟨qB⟩⟩
        ·rw [if_neg c27] at H
         have c27b0 := decide_eq_false c27
         clear c27
         have H' := am H
         clear H
         go_wp2
         go_roundg k2
         case measure => have := HK1.out; have := HK2.out; omega
         case rel => exact ⟨(x1_2), (x7_2), (x8_2), qe, qe, H', ⟨by have := HK1.out; have := HK2.out; omega⟩, ⟨qR (Kd.R_mono HO_6.out (fun _ hk => hk.1))⟩, ⟨qR (Kd.R_mono HO_7.out (fun _ hk => hk.1))⟩, ⟨qb BK972.out⟩, ⟨qB⟩⟩
  ·replace c8 := Bool.eq_false_iff.mpr c8
   subst c8
   have H1 : (some (([] : List Int), false)) = some (r1, r2) := by rw [if_neg (show ¬ (false = true) by decide)] at H; exact H
   clear H
   have H := H1
   clear H1
   simp only [Option.some.injEq, Prod.mk.injEq] at H
   obtain ⟨rfl, rfl⟩ := H
   go_enter Try.func53, Try.ntmps53
   go_wp2_with (first | ((with_reducible refine gate_dst (N := 2) rfl ?_); refine qx (N := 2) (cs := #[.slice A0_0 l0_0.length c0_0]) (t := 26) ?_; intro gb972 hg w40 hbox hb; have n0_ := am (below_step qB hb); have BK972 := am (hbox); have GW972 := am (qg w hg); have GE972 := am (qg w hg); clear HB; have HB := n0_; clear n0_; clear hb hbox hg; have hcz41_0 := qz w40 BK972.out; have hfz41_0 := blk_frozen BK972.out 0) | ((with_reducible refine gate_callee (f := 40) rfl ?_); refine gL (some 13) Try.func40 #[.agg #[.slice A0_0 l0_0.length c0_0]] ?_; (with_reducible refine (impl_IsPoset.calls k _ _ l0_0 true _ ?side1 ?side2 A3.out).mono ?_); (case side1 => exact qC (Kd.C_below HR0_0.out HB.out)); (case side2 => exact HC0_0.out); rintro e w42 ⟨rfl, hb⟩; refine ⟨_, rfl, ?_⟩; replace BK972 := am (blk_below (g := gb972) (o := .cells #[.slice A0_0 l0_0.length c0_0] 26 (0, 0)) (qb BK972.out) hb); replace HB := am (below_step qB hb); (try clear hb); (try clear hb2); (try clear hk); (try clear hi); have hcz43_0 := qz w42 BK972.out; have hfz43_0 := blk_frozen BK972.out 0) | ((with_reducible refine gate_callee (f := 113) rfl ?_); refine gL (some 16) Try.func113 #[.agg #[.slice A0_0 l0_0.length c0_0]] ?_; (with_reducible refine (impl_Poset_ways.calls k _ _ l0_0 t974 _ ?side1 ?side2 A5.out).mono ?_); (case side1 => exact qC (Kd.C_below HR0_0.out HB.out)); (case side2 => exact HC0_0.out); rintro e w44 ⟨v975, rfl, ho0, hb⟩; refine ⟨_, rfl, ?_⟩; have HO976 := am (Kd.R_lower ho0 (below_size qB)); replace BK972 := am (blk_below (g := gb972) (o := .cells #[.slice A0_0 l0_0.length c0_0] 26 (0, 0)) (qb BK972.out) hb); replace HB := am (below_step qB hb); (try clear hb); (try clear hb2); (try clear hk); (try clear hi); (try clear ho0); obtain ⟨Ao45, co45, eo45⟩ := Kd.R_slice HO976.out; subst eo45; have p977 : 0 ≤ (0 : Int) := (by omega); have q977 : 0 < (t974.length : Int) := qd; obtain ⟨ad977, e977, hx977_0⟩ := Kd.at_int (Kd.R_reads' HO976.out).2.2 0 p977 q977; cases e977; have qi977 : (0 < t974.length) = True := eq_true (by omega); (try rw [show ((0 : Int)).toNat = 0 from rfl] at hx977_0); (try rw [Addr.add_zero'] at hx977_0); replace p977 := eq_true p977; replace q977 := eq_true q977) | ((with_reducible refine gate_callee (f := 72) rfl ?_); refine gL (some 22) Try.func72 #[.int .i64 a1, .int .i64 0, .int .i64 (wrap64 ((rd t974 0) - 1))] ?_; (with_reducible refine (impl_within.calls a1 0 (wrap64 ((rd t974 0) - 1)) false _ A7.out).mono ?_); rintro e w' ⟨rfl, ⟨nd, rfl⟩⟩; refine ⟨_, rfl, ?_⟩))
   go_ret2
   exact ⟨_, qr, by first | exact Kd.R_nil _ _ _ _ _ | exact Kd.N_nil _ _ _ _ _ | exact Kd.V_nil _ _ _ _ _ | exact Kd.Q_nil _ _ _ _ _ | exact Kd.S_nil _ _ _ _ _, qB⟩
 ·replace c4 := Bool.eq_false_iff.mpr c4
  subst c4
  have H1 : (some (([] : List Int), false)) = some (r1, r2) := by rw [if_neg (show ¬ (false = true) by decide)] at H; exact H
  clear H
  have H := H1
  clear H1
  simp only [Option.some.injEq, Prod.mk.injEq] at H
  obtain ⟨rfl, rfl⟩ := H
  go_enter Try.func53, Try.ntmps53
  go_wp2_with (first | ((with_reducible refine gate_dst (N := 2) rfl ?_); refine qx (N := 2) (cs := #[.slice A0_0 l0_0.length c0_0]) (t := 26) ?_; intro gb972 hg w46 hbox hb; have n0_ := am (below_step qB hb); have BK972 := am (hbox); have GW972 := am (qg w hg); have GE972 := am (qg w hg); clear HB; have HB := n0_; clear n0_; clear hb hbox hg; have hcz47_0 := qz w46 BK972.out; have hfz47_0 := blk_frozen BK972.out 0) | ((with_reducible refine gate_callee (f := 40) rfl ?_); refine gL (some 13) Try.func40 #[.agg #[.slice A0_0 l0_0.length c0_0]] ?_; (with_reducible refine (impl_IsPoset.calls k _ _ l0_0 false _ ?side1 ?side2 A3.out).mono ?_); (case side1 => exact qC (Kd.C_below HR0_0.out HB.out)); (case side2 => exact HC0_0.out); rintro e w48 ⟨rfl, hb⟩; refine ⟨_, rfl, ?_⟩; replace BK972 := am (blk_below (g := gb972) (o := .cells #[.slice A0_0 l0_0.length c0_0] 26 (0, 0)) (qb BK972.out) hb); replace HB := am (below_step qB hb); (try clear hb); (try clear hb2); (try clear hk); (try clear hi)))
  go_ret2
  exact ⟨_, qr, by first | exact Kd.R_nil _ _ _ _ _ | exact Kd.N_nil _ _ _ _ _ | exact Kd.V_nil _ _ _ _ _ | exact Kd.Q_nil _ _ _ _ _ | exact Kd.S_nil _ _ _ _ _, qB⟩
mutual
def impl_RankLinear.l0 : Nat → List Int → Int → Int → List Int → Int → Int → List Int → Option (Int × Bool)
 | 0, _, _, _, _, _, _, _ => none
 | k + 1, x6, x7, x8, x19, x20, x21, x1116000 => if x21 < x20 then (if 0 ≤ x21 then (if x21 < (x19.length : Int) then ((impl_Poset_next.f k x1116000 x8).bind fun t1121 => (impl_RankLinear.l1 k x6 x7 x8 (rd x19 x21) x19 x20 x21 t1121 (t1121.length : Int) 0 x1116000)) else (none)) else (none)) else (some (x7, true))
def impl_RankLinear.l1 : Nat → List Int → Int → Int → Int → List Int → Int → Int → List Int → Int → Int → List Int → Option (Int × Bool)
 | 0, _, _, _, _, _, _, _, _, _, _, _ => none
 | k + 1, x6, x7, x8, x10, x19, x20, x21, x27, x28, x29, x1116000 => if x29 < x28 then (if 0 ≤ x29 then (if x29 < (x27.length : Int) then (if (rd x27 x29) < x10 then (if 0 ≤ (rd x27 x29) then (if 0 ≤ (Go.bits .or .i64 x8 (shl .i64 1 (rd x27 x29))) then (if (Go.bits .or .i64 x8 (shl .i64 1 (rd x27 x29))) < (x6.length : Int) then (impl_RankLinear.l1 k x6 (wrap64 (x7 + (rd x6 (Go.bits .or .i64 x8 (shl .i64 1 (rd x27 x29)))))) x8 x10 x19 x20 x21 x27 x28 (wrap64 (x29 + 1)) x1116000) else (none)) else (none)) else (none)) else (impl_RankLinear.l1 k x6 x7 x8 x10 x19 x20 x21 x27 x28 (wrap64 (x29 + 1)) x1116000)) else (none)) else (none)) else (if 0 ≤ x10 then (impl_RankLinear.l0 k x6 x7 (Go.bits .or .i64 x8 (shl .i64 1 x10)) x19 x20 (wrap64 (x21 + 1)) x1116000) else (none))
end
def impl_RankLinear.f (k : Nat) (l0_0 : List Int) (l1 : List Int) : Option (Int × Bool) := (impl_isLinear.f k l0_0 l1).bind fun t1116 => (if t1116 = true then ((impl_Poset_ways.f k l0_0).bind fun t1117 => (impl_RankLinear.l0 k t1117 0 0 l1 (l1.length : Int) 0 l0_0)) else (some (0, false)))
theorem impl_RankLinear.mono_l : ∀ k, (∀ y0 y1 y2 y3 y4 y5 y6, LeO (impl_RankLinear.l0 k y0 y1 y2 y3 y4 y5 y6) (impl_RankLinear.l0 (k + 1) y0 y1 y2 y3 y4 y5 y6)) ∧ (∀ y0 y1 y2 y3 y4 y5 y6 y7 y8 y9 y10, LeO (impl_RankLinear.l1 k y0 y1 y2 y3 y4 y5 y6 y7 y8 y9 y10) (impl_RankLinear.l1 (k + 1) y0 y1 y2 y3 y4 y5 y6 y7 y8 y9 y10))
 | 0 => ⟨fun _ _ _ _ _ _ _ r h => by simp [impl_RankLinear.l0] at h, fun _ _ _ _ _ _ _ _ _ _ _ r h => by simp [impl_RankLinear.l1] at h⟩
 | k + 1 => by
  obtain ⟨ih0, ih1⟩ := impl_RankLinear.mono_l k
  refine ⟨?_, ?_⟩
  ·intro y0 y1 y2 y3 y4 y5 y6
   unfold impl_RankLinear.l0
   repeat' first
   | (with_reducible exact impl_Poset_next.mono _ _ _)
   | (with_reducible exact impl_Poset_ways.mono _ _)
   | (with_reducible exact impl_isLinear.mono _ _ _)
   | (with_reducible exact LeO.refl _)
   | (with_reducible exact LeO.none _)
   | (with_reducible refine LeO.ite ?_ ?_)
   | (with_reducible refine LeO.bind ?_ (fun _ => ?_))
   | exact ih0 _ _ _ _ _ _ _
   | exact ih1 _ _ _ _ _ _ _ _ _ _ _
   | exact impl_Poset_next.mono _ _ _
   | exact impl_Poset_ways.mono _ _
   | exact impl_isLinear.mono _ _ _
   | exact LeO.none _
   | refine LeO.ite ?_ ?_
   | refine LeO.bind ?_ (fun _ => ?_)
  ·intro y0 y1 y2 y3 y4 y5 y6 y7 y8 y9 y10
   unfold impl_RankLinear.l1
   repeat' first
   | (with_reducible exact impl_Poset_next.mono _ _ _)
   | (with_reducible exact impl_Poset_ways.mono _ _)
   | (with_reducible exact impl_isLinear.mono _ _ _)
   | (with_reducible exact LeO.refl _)
   | (with_reducible exact LeO.none _)
   | (with_reducible refine LeO.ite ?_ ?_)
   | (with_reducible refine LeO.bind ?_ (fun _ => ?_))
   | exact ih0 _ _ _ _ _ _ _
   | exact ih1 _ _ _ _ _ _ _ _ _ _ _
   | exact impl_Poset_next.mono _ _ _
   | exact impl_Poset_ways.mono _ _
   | exact impl_isLinear.mono _ _ _
   | exact LeO.none _
   | refine LeO.ite ?_ ?_
   | refine LeO.bind ?_ (fun _ => ?_)
theorem impl_RankLinear.mono : ∀ a0 a1 k, LeO (impl_RankLinear.f k a0 a1) (impl_RankLinear.f (k + 1) a0 a1) := by
 intro a0 a1 k
 obtain ⟨ih0, ih1⟩ := impl_RankLinear.mono_l k
 unfold impl_RankLinear.f
 repeat' first
  | (with_reducible exact impl_Poset_next.mono _ _ _)
  | (with_reducible exact impl_Poset_ways.mono _ _)
  | (with_reducible exact impl_isLinear.mono _ _ _)
  | (with_reducible exact LeO.refl _)
  | (with_reducible exact LeO.none _)
  | (with_reducible refine LeO.ite ?_ ?_)
  | (with_reducible refine LeO.bind ?_ (fun _ => ?_))
  | exact ih0 _ _ _ _ _ _ _
  | exact ih1 _ _ _ _ _ _ _ _ _ _ _
  | exact impl_Poset_next.mono _ _ _
  | exact impl_Poset_ways.mono _ _
  | exact impl_isLinear.mono _ _ _
  | exact LeO.none _
  | refine LeO.ite ?_ ?_
  | refine LeO.bind ?_ (fun _ => ?_)
set_option maxHeartbeats 8000000 in
set_option maxRecDepth 100000 in
theorem impl_RankLinear.calls (k : Nat) (A0_0 : Option Addr) (c0_0 : Nat) (l0_0 : List Int) (A1 : Option Addr) (c1 : Nat) (l1 : List Int) (r1 : Int) (r2 : Bool) (w : World) (hr0_0 : Kd.C (Kd.int .i64) w A0_0 l0_0.length l0_0) (hc0_0 : l0_0.length ≤ c0_0) (hr1 : Kd.C (Kd.int .i64) w A1 l1.length l1) (hc1 : l1.length ≤ c1) (h : impl_RankLinear.f k l0_0 l1 = some (r1, r2)) :
 Calls Try.prog 62 #[.agg #[.slice A0_0 l0_0.length c0_0], .slice A1 l1.length c1] w fun e w' => e = .returned (.tuple #[.int .i64 r1, .bool r2]) ∧ Below w.heap.size w w' := by
 have hu26 := Try.underlying26
 have HR0_0 := am hr0_0
 have HC0_0 := am hc0_0
 clear hr0_0 hc0_0
 have HR1 := am hr1
 have HC1 := am hc1
 clear hr1 hc1
 have HB := am (Below.refl w.heap.size w)
 have H : ((impl_isLinear.f k l0_0 l1).bind fun t1116 => (if t1116 = true then ((impl_Poset_ways.f k l0_0).bind fun t1117 => (impl_RankLinear.l0 k t1117 0 0 l1 (l1.length : Int) 0 l0_0)) else (some (0, false)))) = some (r1, r2) := h
 clear h
 replace H := Option.bind_eq_some_iff.mp H
 obtain ⟨t1116, A30, H⟩ := H
 replace H : (if t1116 = true then ((impl_Poset_ways.f k l0_0).bind fun t1117 => (impl_RankLinear.l0 k t1117 0 0 l1 (l1.length : Int) 0 l0_0)) else (some (0, false))) = some (r1, r2) := H
 have A3 := am A30
 clear A30
 by_cases c4 : t1116 = true
 ·subst c4
  have H1 : ((impl_Poset_ways.f k l0_0).bind fun t1117 => (impl_RankLinear.l0 k t1117 0 0 l1 (l1.length : Int) 0 l0_0)) = some (r1, r2) := by rw [if_pos rfl] at H; exact H
  clear H
  have H := H1
  clear H1
  replace H := Option.bind_eq_some_iff.mp H
  obtain ⟨t1117, A50, H⟩ := H
  replace H : (impl_RankLinear.l0 k t1117 0 0 l1 (l1.length : Int) 0 l0_0) = some (r1, r2) := H
  have A5 := am A50
  clear A50
  have H' := am H
  clear H
  go_enter Try.func62, Try.ntmps62
  go_wp2_with (first | ((with_reducible refine gate_dst (N := 2) rfl ?_); refine qx (N := 2) (cs := #[.slice A0_0 l0_0.length c0_0]) (t := 26) ?_; intro gb1115 hg w6 hbox hb; have n0_ := am (below_step qB hb); have BK1115 := am (hbox); have GW1115 := am (qg w hg); have GE1115 := am (qg w hg); clear HB; have HB := n0_; clear n0_; clear hb hbox hg; have hcz7_0 := qz w6 BK1115.out; have hfz7_0 := blk_frozen BK1115.out 0) | ((with_reducible refine gate_callee (f := 122) rfl ?_); refine gL (some 15) Try.func122 #[.agg #[.slice A0_0 l0_0.length c0_0], .slice A1 l1.length c1] ?_; (with_reducible refine (impl_isLinear.calls k _ _ l0_0 _ _ l1 true _ ?side1 ?side2 ?side3 ?side4 A3.out).mono ?_); (case side1 => exact qC (Kd.C_below HR0_0.out HB.out)); (case side2 => exact HC0_0.out); (case side3 => exact qC (Kd.C_below HR1.out HB.out)); (case side4 => exact HC1.out); rintro e w8 ⟨rfl, hb⟩; refine ⟨_, rfl, ?_⟩; replace BK1115 := am (blk_below (g := gb1115) (o := .cells #[.slice A0_0 l0_0.length c0_0] 26 (0, 0)) (qb BK1115.out) hb); replace HB := am (below_step qB hb); (try clear hb); (try clear hb2); (try clear hk); (try clear hi); have hcz9_0 := qz w8 BK1115.out; have hfz9_0 := blk_frozen BK1115.out 0) | ((with_reducible refine gate_callee (f := 113) rfl ?_); refine gL (some 18) Try.func113 #[.agg #[.slice A0_0 l0_0.length c0_0]] ?_; (with_reducible refine (impl_Poset_ways.calls k _ _ l0_0 t1117 _ ?side1 ?side2 A5.out).mono ?_); (case side1 => exact qC (Kd.C_below HR0_0.out HB.out)); (case side2 => exact HC0_0.out); rintro e w10 ⟨v1118, rfl, ho0, hb⟩; refine ⟨_, rfl, ?_⟩; have HO1119 := am (Kd.R_lower ho0 (below_size qB)); replace BK1115 := am (blk_below (g := gb1115) (o := .cells #[.slice A0_0 l0_0.length c0_0] 26 (0, 0)) (qb BK1115.out) hb); replace HB := am (below_step qB hb); (try clear hb); (try clear hb2); (try clear hk); (try clear hi); (try clear ho0)))
  go_loopg [7, 8, 21] k (fun kq v7 v8 v21 w' => ∃ (x7_1 : Int) (x8_1 : Int) (x21_1 : Int), v7 = .int .i64 x7_1 ∧ v8 = .int .i64 x8_1 ∧ v21 = .int .i64 x21_1 ∧ Aside0 (impl_RankLinear.l0 kq t1117 x7_1 x8_1 l1 (l1.length : Int) x21_1 l0_0 = some (r1, r2)) ∧ Aside0 (kq ≤ k) ∧ Aside0 (Kd.R (Kd.int .i64) 3 w' w.heap.size (fun _ => True) v1118 t1117) ∧ Aside0 (w'.heap[gb1115]? = some (.cells #[(.slice A0_0 l0_0.length c0_0)] 26 (0, 0))) ∧ Aside0 (Below w.heap.size w w'))
  case atStart => exact ⟨(0), (0), (0), qe, qe, qe, H', ⟨Nat.le_refl _⟩, ⟨qR HO1119.out⟩, ⟨qb BK1115.out⟩, ⟨qB⟩⟩
  case round =>
   clear H'
   try clear c1
   try clear p2
   try clear c4
   try clear c6
   try clear hcz7_0
   try clear hcz9_0
   try clear hfz7_0
   try clear hfz9_0
   obtain ⟨x7_1, x8_1, x21_1, rfl, rfl, rfl, HA, HK1, HO_6, BK1115, HB⟩ := hrel
   cases gk with
   | zero => exact absurd HA.out (by simp [impl_RankLinear.l0])
   | succ k1 =>
    have H := HA.out
    clear HA
    simp only [impl_RankLinear.l0] at H
    by_cases c11 : x21_1 < (l1.length : Int)
    ·rw [if_pos c11] at H
     have c11b0 := decide_eq_true c11
     clear c11
     by_cases c12 : 0 ≤ x21_1
     rotate_left
     ·rw [if_neg c12] at H
      exact absurd H (by simp)
     rw [if_pos c12] at H
     have c12b0 := decide_eq_true c12
     clear c12
     by_cases c13 : x21_1 < (l1.length : Int)
     rotate_left
     ·rw [if_neg c13] at H
      exact absurd H (by simp)
     rw [if_pos c13] at H
     have c13b0 := decide_eq_true c13
     clear c13
     replace H := Option.bind_eq_some_iff.mp H
     obtain ⟨t1121, A140, H⟩ := H
     replace H : (impl_RankLinear.l1 k1 t1117 x7_1 x8_1 (rd l1 x21_1) l1 (l1.length : Int) x21_1 t1121 (t1121.length : Int) 0 l0_0) = some (r1, r2) := H
     have A14 := am A140
     clear A140
     have H' := am H
     clear H
     have p1120 : 0 ≤ (x21_1 : Int) := qd
     have q1120 : x21_1 < (l1.length : Int) := qd
     obtain ⟨ad1120, e1120, hx1120_0⟩ := Kd.at_int HR1.out x21_1 p1120 q1120
     cases e1120
     replace hx1120_0 := (HB.out.cell (World.block_lt_of_cell? w _ hx1120_0)).trans hx1120_0
     replace p1120 := eq_true p1120
     replace q1120 := eq_true q1120
     have hcz15_0 := qz wr BK1115.out
     have hfz15_0 := blk_frozen BK1115.out 0
     go_wp2_with (first | ((with_reducible refine gate_callee (f := 115) rfl ?_); refine gL (some 27) Try.func115 #[.agg #[.slice A0_0 l0_0.length c0_0], .int .i64 x8_1] ?_; (with_reducible refine (impl_Poset_next.calls k1 _ _ l0_0 x8_1 t1121 _ ?side1 ?side2 A14.out).mono ?_); (case side1 => exact qC (Kd.C_below HR0_0.out HB.out)); (case side2 => exact HC0_0.out); rintro e w16 ⟨v1122, rfl, ho0, hb⟩; refine ⟨_, rfl, ?_⟩; have n0_ := am (Kd.R_elder' (qR HO_6.out) (Kd.R_base ho0) hb); have HO1123 := am (Kd.R_lower (Kd.R_new' ho0 (Kd.R_lt (qR HO_6.out))) (below_size qB)); replace BK1115 := am (blk_below (g := gb1115) (o := .cells #[.slice A0_0 l0_0.length c0_0] 26 (0, 0)) (qb BK1115.out) hb); replace HB := am (below_step qB hb); clear HO_6; have HO_6 := n0_; clear n0_; (try clear hb); (try clear hb2); (try clear hk); (try clear hi); (try clear ho0); obtain ⟨Ao17, co17, eo17⟩ := Kd.R_slice HO1123.out; subst eo17))
     go_loopg [7, 29] k1 (fun kq v7 v29 w' => ∃ (x7_2 : Int) (x29_2 : Int), v7 = .int .i64 x7_2 ∧ v29 = .int .i64 x29_2 ∧ Aside0 (impl_RankLinear.l1 kq t1117 x7_2 x8_1 (rd l1 x21_1) l1 (l1.length : Int) x21_1 t1121 (t1121.length : Int) x29_2 l0_0 = some (r1, r2)) ∧ Aside0 (kq ≤ k1) ∧ Aside0 (Kd.R (Kd.int .i64) 3 w' w.heap.size (fun k_ => some k_ ≠ ((.slice Ao17 t1121.length co17) : Value).ownBlock) v1118 t1117) ∧ Aside0 (Kd.R (Kd.int .i64) 3 w' w.heap.size (fun k_ => some k_ ≠ (v1118 : Value).ownBlock) (.slice Ao17 t1121.length co17) t1121) ∧ Aside0 (w'.heap[gb1115]? = some (.cells #[(.slice A0_0 l0_0.length c0_0)] 26 (0, 0))) ∧ Aside0 (Below w.heap.size w w'))
     case atStart => exact ⟨(x7_1), (0), qe, qe, H', ⟨Nat.le_refl _⟩, ⟨qR (Kd.R_mono HO_6.out (fun _ hk => hk.2))⟩, ⟨qR (Kd.R_mono HO1123.out (fun _ hk => hk.2))⟩, ⟨qb BK1115.out⟩, ⟨qB⟩⟩
     case round =>
      clear H'
      try clear c1
      try clear p1
      try clear q1
      try clear hx1
      try clear p2
      try clear c4
      try clear c6
      try clear c11
      try clear c11b0
      try clear p11
      try clear q11
      try clear hx11
      try clear c12
      try clear c12b0
      try clear c13
      try clear c13b0
      try clear hcz15_0
      try clear hcz7_0
      try clear hcz9_0
      try clear hfz15_0
      try clear hfz7_0
      try clear hfz9_0
      try clear hx1120_0
      try clear p1120
      try clear p2
      try clear q1120
      obtain ⟨x7_2, x29_2, rfl, rfl, HA, HK2, HO_6, HO_27, BK1115, HB⟩ := hrel
      cases gk with
      | zero => exact absurd HA.out (by simp [impl_RankLinear.l1])
      | succ k2 =>
       have H := HA.out
       clear HA
       simp only [impl_RankLinear.l1] at H
       by_cases c18 : x29_2 < (t1121.length : Int)
       ·rw [if_pos c18] at H
        have c18b0 := decide_eq_true c18
        clear c18
        by_cases c19 : 0 ≤ x29_2
        rotate_left
        ·rw [if_neg c19] at H
         exact absurd H (by simp)
        rw [if_pos c19] at H
        have c19b0 := decide_eq_true c19
        clear c19
        by_cases c20 : x29_2 < (t1121.length : Int)
        rotate_left
        ·rw [if_neg c20] at H
         exact absurd H (by simp)
        rw [if_pos c20] at H
        have c20b0 := decide_eq_true c20
        clear c20
        by_cases c21 : (rd t1121 x29_2) < (rd l1 x21_1)
        ·rw [if_pos c21] at H
         have c21b0 := decide_eq_true c21
         clear c21
         by_cases c22 : 0 ≤ (rd t1121 x29_2)
         rotate_left
         ·rw [if_neg c22] at H
          exact absurd H (by simp)
         rw [if_pos c22] at H
         have c22b0 := eq_true c22
         have c22b1 := decide_eq_true c22
         clear c22
         obtain ⟨ji23, hji23⟩ : ∃ j_ : Int, (shl .i64 1 (rd t1121 x29_2)) = j_ := ⟨_, rfl⟩
         replace H : (if 0 ≤ (Go.bits .or .i64 x8_1 (ji23)) then (if (Go.bits .or .i64 x8_1 (ji23)) < (t1117.length : Int) then (impl_RankLinear.l1 k2 t1117 (wrap64 (x7_2 + (rd t1117 (Go.bits .or .i64 x8_1 (ji23))))) x8_1 (rd l1 x21_1) l1 (l1.length : Int) x21_1 t1121 (t1121.length : Int) (wrap64 (x29_2 + 1)) l0_0) else (none)) else (none)) = some (r1, r2) := by first | (rw [hji23] at H; exact H) | (simp only [hji23] at H ⊢; exact H)
         have hji23_ : (IntKind.i64.wrap (1 * 2 ^ min (rd t1121 x29_2).toNat 64)) = ji23 := hji23
         have hji23z : (rd t1121 x29_2) ≤ 64 → (IntKind.i64.wrap (1 * 2 ^ (rd t1121 x29_2).toNat)) = ji23 := shl_small hji23
         have hji23u : (IntKind.i64.wrap (2 ^ min (rd t1121 x29_2).toNat 64)) = ji23 := by have h_ := hji23_; rw [Int.one_mul] at h_; exact h_
         have hji23v : (rd t1121 x29_2) ≤ 64 → (IntKind.i64.wrap (2 ^ (rd t1121 x29_2).toNat)) = ji23 := fun hle_ => by have h_ := hji23z hle_; rw [Int.one_mul] at h_; exact h_
         have hji23y : (wrap64 (1 * 2 ^ min (rd t1121 x29_2).toNat 64)) = ji23 := (i64_w _).symm.trans hji23_
         have hji23x : (rd t1121 x29_2) ≤ 64 → (wrap64 (1 * 2 ^ (rd t1121 x29_2).toNat)) = ji23 := fun h_ => (i64_w _).symm.trans (hji23z h_)
         by_cases c24 : 0 ≤ (Go.bits .or .i64 x8_1 (ji23))
         rotate_left
         ·rw [if_neg c24] at H
          exact absurd H (by simp)
         rw [if_pos c24] at H
         have c24b0 := decide_eq_true c24
         clear c24
         by_cases c25 : (Go.bits .or .i64 x8_1 (ji23)) < (t1117.length : Int)
         rotate_left
         ·rw [if_neg c25] at H
          exact absurd H (by simp)
         rw [if_pos c25] at H
         have c25b0 := decide_eq_true c25
         clear c25
         have H' := am H
         clear H
         have p1124 : 0 ≤ (x29_2 : Int) := qd
         have q1124 : x29_2 < (t1121.length : Int) := qd
         obtain ⟨ad1124, e1124, hx1124_0⟩ := Kd.at_int (Kd.R_reads' HO_27.out).2.2 x29_2 p1124 q1124
         cases e1124
         replace p1124 := eq_true p1124
         replace q1124 := eq_true q1124
         obtain ⟨Ao26, co26, eo26⟩ := Kd.R_slice HO_6.out
         subst eo26
         have p1125 : 0 ≤ ((Go.bits .or .i64 x8_1 (ji23)) : Int) := qd
         have q1125 : (Go.bits .or .i64 x8_1 (ji23)) < (t1117.length : Int) := qd
         obtain ⟨ad1125, e1125, hx1125_0⟩ := Kd.at_int (Kd.R_reads' HO_6.out).2.2 (Go.bits .or .i64 x8_1 (ji23)) p1125 q1125
         cases e1125
         replace p1125 := eq_true p1125
         replace q1125 := eq_true q1125
         go_wp2
         go_roundg k2
         case measure => have := HK1.out; have := HK2.out; omega
         case rel => exact ⟨(wrap64 (x7_2 + (rd t1117 (Go.bits .or .i64 x8_1 (ji23))))), (wrap64 (x29_2 + 1)), (by first | rfl | (simp; done) | (simp only [← hji23] <;> (first | rfl | simp)) | (simp [*]; done)), qe, H', ⟨by have := HK1.out; have := HK2.out; omega⟩, ⟨qR HO_6.out⟩, ⟨qR HO_27.out⟩, ⟨qb BK1115.out⟩, ⟨qB⟩⟩
        ·rw [if_neg c21] at H
         have c21b0 := decide_eq_false c21
         clear c21
         have H' := am H
         clear H
         have p1124 : 0 ≤ (x29_2 : Int) := qd
         have q1124 : x29_2 < (t1121.length : Int) := qd
         obtain ⟨ad1124, e1124, hx1124_0⟩ := Kd.at_int (Kd.R_reads' HO_27.out).2.2 x29_2 p1124 q1124
         cases e1124
         replace p1124 := eq_true p1124
         replace q1124 := eq_true q1124
         go_wp2
         go_roundg k2
         case measure => have := HK1.out; have := HK2.out; omega
         case rel => exact ⟨(x7_2), (wrap64 (x29_2 + 1)), qe, qe, H', ⟨by have := HK1.out; have := HK2.out; omega⟩, ⟨qR HO_6.out⟩, ⟨qR HO_27.out⟩, ⟨qb BK1115.out⟩, ⟨qB⟩⟩
       ·rw [if_neg c18] at H
        have c18b0 := decide_eq_false c18
        clear c18
        by_cases c27 : 0 ≤ (rd l1 x21_1)
        rotate_left
        ·rw [if_neg c27] at H
         exact absurd H (by simp)
        rw [if_pos c27] at H
        have c27b0 := eq_true c27
        have c27b1 := decide_eq_true c27
        clear c27
        obtain ⟨ji28, hji28⟩ : ∃ j_ : Int, (shl .i64 1 (rd l1 x21_1)) = j_ := ⟨_, rfl⟩
        replace H : (impl_RankLinear.l0 k2 t1117 x7_2 (Go.bits .or .i64 x8_1 (ji28)) l1 (l1.length : Int) (wrap64 (x21_1 + 1)) l0_0) = some (r1, r2) := by first | (rw [hji28] at H; exact H) | (simp only [hji28] at H ⊢; exact H)
        have hji28_ : (IntKind.i64.wrap (1 * 2 ^ min (rd l1 x21_1).toNat 64)) = ji28 := hji28
        have hji28z : (rd l1 x21_1) ≤ 64 → (IntKind.i64.wrap (1 * 2 ^ (rd l1 x21_1).toNat)) = ji28 := shl_small hji28
        have hji28u : (IntKind.i64.wrap (2 ^ min (rd l1 x21_1).toNat 64)) = ji28 := by have h_ := hji28_; rw [Int.one_mul] at h_; exact h_
        have hji28v : (rd l1 x21_1) ≤ 64 → (IntKind.i64.wrap (2 ^ (rd l1 x21_1).toNat)) = ji28 := fun hle_ => by have h_ := hji28z hle_; rw [Int.one_mul] at h_; exact h_
        have hji28y : (wrap64 (1 * 2 ^ min (rd l1 x21_1).toNat 64)) = ji28 := (i64_w _).symm.trans hji28_
        have hji28x : (rd l1 x21_1) ≤ 64 → (wrap64 (1 * 2 ^ (rd l1 x21_1).toNat)) = ji28 := fun h_ => (i64_w _).symm.trans (hji28z h_)
        have H' := am H
        clear H
        go_wp2
        go_roundg k2
        case measure => have := HK1.out; have := HK2.out; omega
        case rel => exact ⟨(x7_2), (Go.bits .or .i64 x8_1 (ji28)), (wrap64 (x21_1 + 1)), qe, (by first | rfl | (simp; done) | (simp only [← hji28] <;> (first | rfl | simp)) | (simp [*]; done)), qe, H', ⟨by have := HK1.out; have := HK2.out; omega⟩, ⟨qR (Kd.R_mono HO_6.out (fun _ hk => trivial))⟩, ⟨qb BK1115.out⟩, ⟨qB⟩⟩
    ·rw [if_neg c11] at H
     have c11b0 := decide_eq_false c11
     clear c11
     simp only [Option.some.injEq, Prod.mk.injEq] at H
     obtain ⟨rfl, rfl⟩ := H
     go_wp2
     go_ret2
     exact ⟨qr, qB⟩
 ·replace c4 := Bool.eq_false_iff.mpr c4
  subst c4
  have H1 : (some (0, false)) = some (r1, r2) := by rw [if_neg (show ¬ (false = true) by decide)] at H; exact H
  clear H
  have H := H1
  clear H1
  simp only [Option.some.injEq, Prod.mk.injEq] at H
  obtain ⟨rfl, rfl⟩ := H
  go_enter Try.func62, Try.ntmps62
  go_wp2_with (first | ((with_reducible refine gate_dst (N := 2) rfl ?_); refine qx (N := 2) (cs := #[.slice A0_0 l0_0.length c0_0]) (t := 26) ?_; intro gb1115 hg w29 hbox hb; have n0_ := am (below_step qB hb); have BK1115 := am (hbox); have GW1115 := am (qg w hg); have GE1115 := am (qg w hg); clear HB; have HB := n0_; clear n0_; clear hb hbox hg; have hcz30_0 := qz w29 BK1115.out; have hfz30_0 := blk_frozen BK1115.out 0) | ((with_reducible refine gate_callee (f := 122) rfl ?_); refine gL (some 15) Try.func122 #[.agg #[.slice A0_0 l0_0.length c0_0], .slice A1 l1.length c1] ?_; (with_reducible refine (impl_isLinear.calls k _ _ l0_0 _ _ l1 false _ ?side1 ?side2 ?side3 ?side4 A3.out).mono ?_); (case side1 => exact qC (Kd.C_below HR0_0.out HB.out)); (case side2 => exact HC0_0.out); (case side3 => exact qC (Kd.C_below HR1.out HB.out)); (case side4 => exact HC1.out); rintro e w31 ⟨rfl, hb⟩; refine ⟨_, rfl, ?_⟩; replace BK1115 := am (blk_below (g := gb1115) (o := .cells #[.slice A0_0 l0_0.length c0_0] 26 (0, 0)) (qb BK1115.out) hb); replace HB := am (below_step qB hb); (try clear hb); (try clear hb2); (try clear hk); (try clear hi)))
  go_ret2
  exact ⟨qr, qB⟩
end Go.Proofs.Ytmbojobkiainlaa.F
end

section
namespace Go.Proofs.Ytmbojobkiainlaa.Q
open Go.RowKit Go.Proofs.YtmbojobkiainlaaW.PrintWords Go.Proofs.Ytmbojobkiainlaa.F
set_option linter.unusedVariables false
theorem nextDel_eq {p : List Int} (hp : PO p) {s e : Nat} (hs : s < 2 ^ p.length) (he : e < p.length) : nextDel p (s : Int) (e : Int) = !subB (L p e) s := by
 have hn := hp.small
 unfold nextDel subB
 rw [rdN, hp.val e he, bits_andNotN (lt_pow (L_lt hp he) (by omega)) (lt_pow hs (by omega))]
 rw [Bool.eq_iff_iff, bne_iff_ne, Bool.not_eq_true', beq_eq_false_iff_ne]
 constructor
 ·intro h h2; exact h (by rw [h2]; rfl)
 ·intro h h2; exact h (by exact_mod_cast h2)
theorem filter_ints (l : List Nat) (f : Int → Bool) (g : Nat → Bool) (h : ∀ e ∈ l, f (e : Int) = g e) : (ints l).filter f = ints (l.filter g) := by
 induction l with
 | nil => rfl
 | cons x l ih =>
  have h1 := h x List.mem_cons_self
  have h2 := ih (fun e he => h e (List.mem_cons_of_mem _ he))
  have e1 : ints (x :: l) = (x : Int) :: ints l := rfl
  rw [e1, List.filter_cons, List.filter_cons, h1, h2]
  split <;> rfl
theorem next_ev {p : List Int} (hp : PO p) {s : Nat} (hs : s < 2 ^ p.length) : Ev (fun k => impl_Poset_next.f k p (s : Int)) (ints (nextN p s)) := by
 have hn := hp.small
 have hal := allN_lt p
 unfold impl_Poset_next.f
 refine Ev.call (all_eq (by omega)) ?_
 rw [bits_andNotN (lt_pow hal (by omega)) (lt_pow hs (by omega))]
 have hit : ndiff (allN p) s < 2 ^ p.length := ndiff_lt hal
 refine Ev.bind (items_ev _ (lt_pow hit (by omega))) ?_
 have hlt : ∀ e ∈ itemsN (ndiff (allN p) s), e < p.length := fun e he => lt_of_bit hit (mem_itemsN.1 he).2
 refine Ev.yes ⟨fun x hx => ?_, hp.pos, ?_⟩ (Ev.ret ?_)
 ·obtain ⟨e, he, rfl⟩ := List.mem_map.1 hx
  have := hlt e he
  show 0 ≤ ((e : Nat) : Int) ∧ ((e : Nat) : Int) < _
  omega
 ·rw [ints_len]; have := itemsN_len (ndiff (allN p) s); omega
 ·rw [nextN_items p hp s]
  refine filter_ints _ _ _ (fun e he => ?_)
  rw [nextDel_eq hp hs (hlt e he), Bool.not_not]
theorem nextN_get {p : List Int} {s i : Nat} (h : i < (nextN p s).length) : (nextN p s).getD i 0 ∈ nextN p s := by
 rw [List.getD_eq_getElem?_getD, List.getElem?_eq_getElem h]; exact List.getElem_mem h
theorem idealB_zero (p : List Int) : idealB p 0 = true := by
 rw [idealB_iff]
 intro i _ h
 rw [Nat.zero_testBit] at h; cases h
theorem Wl_next {p : List Int} (hp : PO p) {s e : Nat} (hs : s < 2 ^ p.length) (hid : idealB p s = true) (he : e ∈ nextN p s) :
 s ||| 2 ^ e < 2 ^ p.length ∧ (Wl p 0).getD (s ||| 2 ^ e) 0 = ((ways p (s ||| 2 ^ e) : Nat) : Int) := by
 obtain ⟨_, h1, _, _⟩ := mem_nextN.1 he
 have h2 : s ||| 2 ^ e < 2 ^ p.length := or_lt hs (pow_lt_pow h1)
 refine ⟨h2, ?_⟩
 rw [Wl_get p 0 h2]
 unfold wayAt
 rw [if_pos (Nat.zero_le _), if_pos (idealB_add hp hid he)]
theorem Cl_at {p : List Int} {t : Nat} (h : t < 2 ^ p.length) : (Cl p 0).getD t 0 = ((ways p t : Nat) : Int) := by
 rw [Cl_get p 0 h]; unfold cntAt; rw [if_pos (Nat.zero_le _)]
def rkF (p : List Int) (s : Nat) (acc : Int) (l : List Nat) : Int := l.foldl (fun a e => wrap64 (a + ((ways p (s ||| 2 ^ e) : Nat) : Int))) acc
def nextTo (p : List Int) (s own i : Nat) : List Nat := (List.range' i (own - i)).filter fun e => !s.testBit e && subB (L p e) s
theorem nextTo_step {p : List Int} {s own i : Nat} (h : i < own) : nextTo p s own i = if !s.testBit i && subB (L p i) s then i :: nextTo p s own (i + 1) else nextTo p s own (i + 1) := by
 unfold nextTo
 rw [show own - i = (own - (i + 1)) + 1 by omega, List.range'_succ, List.filter_cons]
theorem nextTo_end (p : List Int) (s own : Nat) : nextTo p s own own = [] := by unfold nextTo; simp
theorem nextTo_eq {p : List Int} (hn : p.length ≤ 10) {s own : Nat} (h : own ≤ p.length) : (nextN p s).filter (fun e => decide (e < own)) = nextTo p s own 0 := by
 rw [← nextFrom_zero hn]
 unfold nextFrom nextTo
 rw [Nat.sub_zero, Nat.sub_zero, ← List.range_eq_range', ← List.range_eq_range', List.filter_filter]
 have e0 : own + (p.length - own) = p.length := by omega
 have e : List.range p.length = List.range own ++ (List.range (p.length - own)).map (own + ·) := by rw [← List.range_add, e0]
 rw [e, List.filter_append]
 have e2 : ((List.range (p.length - own)).map (own + ·)).filter (fun e => decide (e < own) && (!s.testBit e && subB (L p e) s)) = [] := by
  rw [List.filter_eq_nil_iff]
  intro x hx
  obtain ⟨y, _, rfl⟩ := List.mem_map.1 hx
  rw [decide_eq_false (by omega)]; simp
 rw [e2, List.append_nil]
 apply List.filter_congr
 intro x hx
 rw [List.mem_range] at hx
 rw [decide_eq_true hx]; rfl
def pick (p : List Int) (s : Nat) : List Nat → Nat → Nat × Nat
 | [], r => (0, r)
 | e :: l, r => if r < ways p (s ||| 2 ^ e) then (e, r) else pick p s l (r - ways p (s ||| 2 ^ e))
theorem pick_ok {p : List Int} {s : Nat} : ∀ (l : List Nat) (r : Nat), r < sumL (l.map fun e => ways p (s ||| 2 ^ e)) → (pick p s l r).1 ∈ l ∧ (pick p s l r).2 < ways p (s ||| 2 ^ (pick p s l r).1) := by
 intro l
 induction l with
 | nil => intro r h; simp [sumL] at h
 | cons e l ih =>
  intro r h
  simp only [List.map_cons, sumL] at h
  unfold pick
  split
  ·rename_i h1; exact ⟨List.mem_cons_self, h1⟩
  ·obtain ⟨h1, h2⟩ := ih (r - ways p (s ||| 2 ^ e)) (by omega)
   exact ⟨List.mem_cons_of_mem _ h1, h2⟩
def linW (p : List Int) : Nat → Nat → Nat → List Nat
 | 0, _, _ => []
 | d + 1, s, r => (pick p s (nextN p s) r).1 :: linW p d (s ||| 2 ^ (pick p s (nextN p s) r).1) (pick p s (nextN p s) r).2
theorem linW_len (p : List Int) : ∀ d s r, (linW p d s r).length = d := by
 intro d
 induction d with
 | zero => intro s r; rfl
 | succ d ih => intro s r; simp only [linW, List.length_cons, ih]
theorem with_spec_in {p : List Int} (hp : PO p) {s : Nat} (hs : s < 2 ^ p.length) (acc R : List Int) (ha : acc.length ≤ 10) : ∀ i, i ≤ p.length → ∀ r : Nat, r < sumL ((nextFrom p s i).map fun e => ways p (s ||| 2 ^ e)) →
 Ev (fun k => spec_liWith.l0 k (Cl p 0) (((pick p s (nextFrom p s i) r).2 : Nat) : Int) (acc ++ [(((pick p s (nextFrom p s i) r).1 : Nat) : Int)]) ((s ||| 2 ^ (pick p s (nextFrom p s i) r).1 : Nat) : Int) p) R →
 Ev (fun k => spec_liWith.l1 k (Cl p 0) (r : Int) acc (s : Int) p (p.length : Int) (i : Int) p) R := by
 have hn := hp.small
 refine downTo _ ?_ ?_
 ·intro r hr _
  rw [nextFrom_end] at hr
  simp [sumL] at hr
 ·intro i hi ih r hr h
  rw [nextFrom_step hi] at hr h
  refine Ev.step (by intro k; simp only [spec_liWith.l1]; rfl) (Ev.yes (by omega) (Ev.yes (by omega) (Ev.yes (by omega) (Ev.call (poIn_eq (by omega)) ?_))))
  have skip : Ev (fun k => spec_liWith.l1 k (Cl p 0) (r : Int) acc (s : Int) p (p.length : Int) ((i + 1 : Nat) : Int) p) R → Ev (fun k => spec_liWith.j2 k (Cl p 0) (r : Int) acc (s : Int) (i : Int) p (p.length : Int) (i : Int) true p) R := fun g => by
   refine Ev.step (by intro k; simp only [spec_liWith.j2]; rfl) (Ev.yes (show true = true from rfl) ?_)
   rw [wid1 (i := i) (n := p.length) hi (by omega)]; exact g
  cases hb : s.testBit i with
  | true =>
   rw [hb] at hr h
   exact Ev.yes rfl (skip (ih r (by simpa using hr) (by simpa using h)))
  | false =>
   rw [hb] at hr h
   refine Ev.no (by simp) ?_
   rw [rdN, hp.val i hi, bits_andNotN (lt_pow (L_lt hp hi) (by omega)) (lt_pow hs (by omega))]
   cases hc : subB (L p i) s with
   | false =>
    rw [hc] at hr h
    have e : ((((ndiff (L p i) s : Nat) : Int) != 0)) = true := by
     rw [bne_iff_ne]
     intro h5
     have h4 : ndiff (L p i) s = 0 := by exact_mod_cast h5
     unfold subB at hc; rw [h4] at hc; simp at hc
    rw [e]
    exact skip (ih r (by simpa using hr) (by simpa using h))
   | true =>
    rw [hc] at hr h
    have h4 : ndiff (L p i) s = 0 := by unfold subB at hc; exact beq_iff_eq.1 hc
    have e : ((((ndiff (L p i) s : Nat) : Int) != 0)) = false := by rw [h4]; rfl
    rw [e]
    have hsi : s ||| 2 ^ i < 2 ^ p.length := or_lt hs (pow_lt_pow hi)
    have hw := ways_le hn (s ||| 2 ^ i)
    refine Ev.step (by intro k; simp only [spec_liWith.j2]; rfl) (Ev.no (by simp) (Ev.yes (by omega) ?_))
    rw [shlN (by omega), bits_orN (lt_pow hs (by omega)) (Nat.pow_lt_pow_right (by decide) (by omega))]
    refine Ev.yes (by omega) (Ev.yes (by rw [Cl_len]; omega) ?_)
    rw [rdN, Cl_at hsi]
    simp only [Bool.not_false, Bool.true_and, if_true, List.map_cons, sumL, pick] at hr h
    by_cases hlt : r < ways p (s ||| 2 ^ i)
    ·rw [if_pos hlt] at h
     exact Ev.yes (by omega) (Ev.yes (by omega) h)
    ·rw [if_neg hlt] at h
     refine Ev.no (by omega) ?_
     rw [wid1 (i := i) (n := p.length) hi (by omega)]
     have hr2 : r ≤ r := Nat.le_refl _
     have hsum : r - ways p (s ||| 2 ^ i) < sumL ((nextFrom p s (i + 1)).map fun e => ways p (s ||| 2 ^ e)) := by omega
     have ew : wrap64 ((r : Int) - ((ways p (s ||| 2 ^ i) : Nat) : Int)) = ((r - ways p (s ||| 2 ^ i) : Nat) : Int) := by
      have hb2 : sumL ((nextFrom p s (i + 1)).map fun e => ways p (s ||| 2 ^ e)) ≤ 10 * 10000000000 := sumL_le _ _ _ (fun x hx => by obtain ⟨e, _, rfl⟩ := List.mem_map.1 hx; exact ways_le hn _) (by
       rw [List.length_map]; unfold nextFrom
       exact Nat.le_trans (List.length_filter_le _ _) (by rw [List.length_range']; omega))
      rw [wid (by omega) (by omega)]; omega
     rw [ew]
     exact ih _ hsum h
theorem liWith_run {p : List Int} (hp : PO p) : ∀ (d s r : Nat) (acc : List Int), s < 2 ^ p.length → pcard p.length s = acc.length → acc.length + d = p.length → r < ways p s →
 Ev (fun k => spec_liWith.l0 k (Cl p 0) (r : Int) acc (s : Int) p) (acc ++ ints (linW p d s r)) := by
 have hn := hp.small
 intro d
 induction d with
 | zero =>
  intro s r acc hs hc hd hr
  refine Ev.step (by intro k; simp only [spec_liWith.l0]; rfl) (Ev.no (by omega) (Ev.ret ?_))
  simp [linW, ints]
 | succ d ih =>
  intro s r acc hs hc hd hr
  have hall : s ≠ allN p := by
   intro e
   rw [e, pcard_all] at hc; omega
  have hst := ways_step hs hall
  rw [← nextFrom_zero hn] at hst
  have hr' : r < sumL ((nextFrom p s 0).map fun e => ways p (s ||| 2 ^ e)) := by omega
  obtain ⟨h1, h2⟩ := pick_ok _ r hr'
  have h1' : (pick p s (nextFrom p s 0) r).1 ∈ nextN p s := by rw [← nextFrom_zero hn]; exact h1
  obtain ⟨_, m1, m2, m3⟩ := mem_nextN.1 h1'
  refine Ev.step (by intro k; simp only [spec_liWith.l0]; rfl) (Ev.yes (by omega) ?_)
  refine with_spec_in hp hs acc _ (by omega) 0 (Nat.zero_le _) r hr' ?_
  have := ih (s ||| 2 ^ (pick p s (nextFrom p s 0) r).1) (pick p s (nextFrom p s 0) r).2 (acc ++ [(((pick p s (nextFrom p s 0) r).1 : Nat) : Int)]) (or_lt hs (pow_lt_pow m1)) (by rw [pcard_add m1 m2, hc, List.length_append, List.length_singleton]) (by rw [List.length_append, List.length_singleton]; omega) h2
  refine evc this ?_
  rw [List.append_assoc, nextFrom_zero hn]
  rfl
theorem liWith_ev {p : List Int} (hp : PO p) {r : Nat} (hr : r < ways p 0) : Ev (fun k => spec_liWith.f k p (Cl p 0) (r : Int)) (ints (linW p p.length 0 r)) := by
 unfold spec_liWith.f
 have := liWith_run hp p.length 0 r [] (Nat.two_pow_pos _) (by rw [pcard_zero]; rfl) (by simp) hr
 rw [List.nil_append] at this
 exact this
theorem with_impl_in {p : List Int} (hp : PO p) {s : Nat} (hs : s < 2 ^ p.length) (hid : idealB p s = true) (acc : List Int) (R : List Int × Bool) (ha : acc.length ≤ 10) : ∀ j, j ≤ (nextN p s).length → ∀ r : Nat, r < sumL (((nextN p s).drop j).map fun e => ways p (s ||| 2 ^ e)) →
 Ev (fun k => impl_LinearWith.l0 k (((pick p s ((nextN p s).drop j) r).2 : Nat) : Int) (Wl p 0) (acc ++ [(((pick p s ((nextN p s).drop j) r).1 : Nat) : Int)]) ((s ||| 2 ^ (pick p s ((nextN p s).drop j) r).1 : Nat) : Int) p) R →
 Ev (fun k => impl_LinearWith.l1 k (r : Int) (Wl p 0) acc (s : Int) (ints (nextN p s)) ((nextN p s).length : Int) (j : Int) p) R := by
 have hn := hp.small
 have hl := nextN_len p s
 refine downTo _ ?_ ?_
 ·intro r hr _
  rw [List.drop_length] at hr
  simp [sumL] at hr
 ·intro j hj ih r hr h
  have hm := nextN_get hj
  have hd : (nextN p s).drop j = (nextN p s).getD j 0 :: (nextN p s).drop (j + 1) := by
   rw [List.drop_eq_getElem_cons hj, List.getD_eq_getElem?_getD, List.getElem?_eq_getElem hj]; rfl
  rw [hd] at hr h
  refine Ev.step (by intro k; simp only [impl_LinearWith.l1]; rfl) (Ev.yes (by omega) (Ev.yes (by omega) (Ev.yes (by rw [ints_len]; omega) ?_)))
  rw [rd_ints, wid1 hj (by omega)]
  generalize (nextN p s).getD j 0 = e at hr h hm
  obtain ⟨h1, h2⟩ := Wl_next hp hs hid hm
  have he := (mem_nextN.1 hm).2.1
  have hw := ways_le hn (s ||| 2 ^ e)
  refine Ev.yes (by omega) ?_
  rw [shlN (by omega), bits_orN (lt_pow hs (by omega)) (Nat.pow_lt_pow_right (by decide) (by omega))]
  refine Ev.yes (by omega) (Ev.yes (by rw [Wl_len]; omega) ?_)
  rw [rdN, h2]
  simp only [List.map_cons, sumL, pick] at hr h
  by_cases hlt : r < ways p (s ||| 2 ^ e)
  ·rw [if_pos hlt] at h
   exact Ev.yes (by omega) (Ev.yes (by omega) h)
  ·rw [if_neg hlt] at h
   refine Ev.no (by omega) ?_
   have hsum : r - ways p (s ||| 2 ^ e) < sumL (((nextN p s).drop (j + 1)).map fun e => ways p (s ||| 2 ^ e)) := by omega
   have ew : wrap64 ((r : Int) - ((ways p (s ||| 2 ^ e) : Nat) : Int)) = ((r - ways p (s ||| 2 ^ e) : Nat) : Int) := by
    have hb2 : sumL (((nextN p s).drop (j + 1)).map fun e => ways p (s ||| 2 ^ e)) ≤ 10 * 10000000000 := sumL_le _ _ _ (fun x hx => by obtain ⟨e, _, rfl⟩ := List.mem_map.1 hx; exact ways_le hn _) (by
     rw [List.length_map, List.length_drop]; omega)
    rw [wid (by omega) (by omega)]; omega
   rw [ew]
   exact ih _ hsum h
theorem with_run {p : List Int} (hp : PO p) : ∀ (d s r : Nat) (acc : List Int), s < 2 ^ p.length → idealB p s = true → pcard p.length s = acc.length → acc.length + d = p.length → r < ways p s →
 Ev (fun k => impl_LinearWith.l0 k (r : Int) (Wl p 0) acc (s : Int) p) (acc ++ ints (linW p d s r), true) := by
 have hn := hp.small
 intro d
 induction d with
 | zero =>
  intro s r acc hs hid hc hd hr
  have hall : s = allN p := all_of_pcard hs (by omega)
  refine Ev.step (by intro k; simp only [impl_LinearWith.l0]; rfl) (Ev.call (all_eq (by omega)) (Ev.yes (show ((s : Nat) : Int) = ((allN p : Nat) : Int) from by rw [hall]) (Ev.ret ?_)))
  simp [linW, ints]
 | succ d ih =>
  intro s r acc hs hid hc hd hr
  have hall : s ≠ allN p := by
   intro e
   rw [e, pcard_all] at hc; omega
  have hst := ways_step hs hall
  have hr' : r < sumL (((nextN p s).drop 0).map fun e => ways p (s ||| 2 ^ e)) := by rw [List.drop_zero]; omega
  obtain ⟨h1, h2⟩ := pick_ok _ r hr'
  have h1' := h1
  rw [List.drop_zero] at h1'
  obtain ⟨_, m1, m2, m3⟩ := mem_nextN.1 h1'
  refine Ev.step (by intro k; simp only [impl_LinearWith.l0]; rfl) (Ev.call (all_eq (by omega)) (Ev.no (show ¬ (((s : Nat) : Int) = ((allN p : Nat) : Int)) from fun h => hall (by exact_mod_cast h)) (Ev.bind (next_ev hp hs) ?_)))
  rw [ints_len]
  refine with_impl_in hp hs hid acc _ (by omega) 0 (Nat.zero_le _) r hr' ?_
  rw [List.drop_zero] at h2 ⊢
  have := ih (s ||| 2 ^ (pick p s (nextN p s) r).1) (pick p s (nextN p s) r).2 (acc ++ [(((pick p s (nextN p s) r).1 : Nat) : Int)]) (or_lt hs (pow_lt_pow m1)) (idealB_add hp hid h1') (by rw [pcard_add m1 m2, hc, List.length_append, List.length_singleton]) (by rw [List.length_append, List.length_singleton]; omega) h2
  refine evc this ?_
  rw [List.append_assoc]
  rfl
theorem LinearWith_same (p : List Int) (hp : p.length ≤ 1048576) (_ : ∀ n ∈ p, (Lit.int .i64 n).wf = true) (a : Int) (_ : (Lit.int .i64 a).wf = true) :
 ∃ r, Ev (fun k => spec_LinearWith.f k p a) r ∧ Ev (fun k => impl_LinearWith.f k p a) r ∧ r.1.length ≤ 1048576 := by
 unfold spec_LinearWith.f impl_LinearWith.f
 cases hpo : isPo p with
 | false =>
  refine ⟨([], false), Ev.bind (poGood_ev p) ?_, Ev.bind (IsPoset_ev p) ?_, Nat.zero_le _⟩
  ·rw [hpo]; exact Ev.no (by simp) (Ev.now _)
  ·rw [hpo]; exact Ev.no (by simp) (Ev.now _)
 | true =>
 have hP := (isPo_iff p).1 hpo
 have hn := hP.small
 have h2 : 0 < 2 ^ p.length := Nat.two_pow_pos _
 have hw := ways_le hn 0
 have eW : rd (Wl p 0) 0 = ((ways p 0 : Nat) : Int) := by
  have := rdN (Wl p 0) 0
  refine this.trans ?_
  rw [Wl_get p 0 h2]; unfold wayAt; rw [if_pos (Nat.le_refl _), if_pos (idealB_zero p)]
 have eC : rd (Cl p 0) 0 = ((ways p 0 : Nat) : Int) := (rdN (Cl p 0) 0).trans (Cl_at h2)
 have ew : wrap64 (((ways p 0 : Nat) : Int) - 1) = ((ways p 0 : Nat) : Int) - 1 := wid (by omega) (by omega)
 by_cases ha : 0 ≤ a ∧ a ≤ ((ways p 0 : Nat) : Int) - 1
 rotate_left
 ·refine ⟨([], false), Ev.bind (poGood_ev p) ?_, Ev.bind (IsPoset_ev p) ?_, Nat.zero_le _⟩
  ·rw [hpo]
   refine Ev.yes rfl (Ev.bind (liCounts_ev hP) (Ev.yes (by rw [Cl_len]; omega) ?_))
   rw [eC, ew]
   exact Ev.call (l1In_eq _ _ _) (Ev.no (by rw [range_false ha]; simp) (Ev.now _))
  ·rw [hpo]
   refine Ev.yes rfl (Ev.bind (ways_table hP) (Ev.yes (by rw [Wl_len]; omega) ?_))
   rw [eW, ew]
   exact Ev.call (within_eq _ _ _) (Ev.no (by rw [range_false ha]; simp) (Ev.now _))
 ·obtain ⟨r, rfl⟩ := Int.eq_ofNat_of_zero_le ha.1
  have hr : r < ways p 0 := by omega
  refine ⟨(ints (linW p p.length 0 r), true), Ev.bind (poGood_ev p) ?_, Ev.bind (IsPoset_ev p) ?_, by show (ints (linW p p.length 0 r)).length ≤ _; rw [ints_len, linW_len]; exact hp⟩
  ·rw [hpo]
   refine Ev.yes rfl (Ev.bind (liCounts_ev hP) (Ev.yes (by rw [Cl_len]; omega) ?_))
   rw [eC, ew]
   exact Ev.call (l1In_eq _ _ _) (Ev.yes (range_true ha) (Ev.bind (liWith_ev hP hr) (Ev.now _)))
  ·rw [hpo]
   refine Ev.yes rfl (Ev.bind (ways_table hP) (Ev.yes (by rw [Wl_len]; omega) ?_))
   rw [eW, ew]
   refine Ev.call (within_eq _ _ _) (Ev.yes (range_true ha) ?_)
   have := with_run hP p.length 0 r [] h2 (idealB_zero p) (by rw [pcard_zero]; rfl) (by simp) hr
   rw [List.nil_append] at this
   exact this
theorem rank_spec_in {p : List Int} (hp : PO p) {s own : Nat} (hs : s < 2 ^ p.length) (ho : own < p.length) (w : List Int) (n i0 : Int) (R : Int × Bool) : ∀ i, i ≤ own → ∀ acc : Int,
 Ev (fun k => spec_RankLinear.l0 k (Cl p 0) (rkF p s acc (nextTo p s own i)) ((s ||| 2 ^ own : Nat) : Int) w n (wrap64 (i0 + 1)) p) R → Ev (fun k => spec_RankLinear.l1 k (Cl p 0) acc (s : Int) (own : Int) (i : Int) w n i0 p) R := by
 have hn := hp.small
 refine downTo _ ?_ ?_
 ·intro acc h
  rw [nextTo_end] at h
  refine Ev.step (by intro k; simp only [spec_RankLinear.l1]; rfl) (Ev.no (by omega) (Ev.yes (by omega) ?_))
  rw [shlN (by omega), bits_orN (lt_pow hs (by omega)) (Nat.pow_lt_pow_right (by decide) (by omega))]
  exact h
 ·intro i hi ih acc h
  have hip : i < p.length := by omega
  rw [nextTo_step hi] at h
  refine Ev.step (by intro k; simp only [spec_RankLinear.l1]; rfl) (Ev.yes (by omega) (Ev.call (poIn_eq (by omega)) ?_))
  rw [wid1 (i := i) (n := p.length) hip (by omega)]
  cases hb : s.testBit i with
  | true =>
   rw [hb] at h
   exact Ev.yes rfl (ih acc (by simpa using h))
  | false =>
   rw [hb] at h
   refine Ev.no (by simp) (Ev.yes (by omega) (Ev.yes (by omega) ?_))
   rw [rdN, hp.val i hip, bits_andNotN (lt_pow (L_lt hp hip) (by omega)) (lt_pow hs (by omega))]
   cases hc : subB (L p i) s with
   | false =>
    rw [hc] at h
    refine Ev.no (fun h5 => ?_) (ih acc (by simpa using h))
    have h4 : ndiff (L p i) s = 0 := by exact_mod_cast h5
    unfold subB at hc; rw [h4] at hc; simp at hc
   | true =>
    rw [hc] at h
    have h4 : ndiff (L p i) s = 0 := by unfold subB at hc; exact beq_iff_eq.1 hc
    have hsi : s ||| 2 ^ i < 2 ^ p.length := or_lt hs (pow_lt_pow hip)
    refine Ev.yes (by rw [h4]; rfl) ?_
    rw [shlN (by omega), bits_orN (lt_pow hs (by omega)) (Nat.pow_lt_pow_right (by decide) (by omega))]
    refine Ev.yes (by omega) (Ev.yes (by rw [Cl_len]; omega) ?_)
    rw [rdN, Cl_at hsi]
    refine ih _ ?_
    simpa [rkF] using h
theorem rank_impl_in {p : List Int} (hp : PO p) {s own : Nat} (hs : s < 2 ^ p.length) (hid : idealB p s = true) (ho : own < p.length) (w : List Int) (n i0 : Int) (R : Int × Bool) : ∀ j, j ≤ (nextN p s).length → ∀ acc : Int,
 Ev (fun k => impl_RankLinear.l0 k (Wl p 0) (rkF p s acc (((nextN p s).drop j).filter fun e => decide (e < own))) ((s ||| 2 ^ own : Nat) : Int) w n (wrap64 (i0 + 1)) p) R → Ev (fun k => impl_RankLinear.l1 k (Wl p 0) acc (s : Int) (own : Int) w n i0 (ints (nextN p s)) ((nextN p s).length : Int) (j : Int) p) R := by
 have hn := hp.small
 have hl := nextN_len p s
 refine downTo _ ?_ ?_
 ·intro acc h
  rw [List.drop_length] at h
  refine Ev.step (by intro k; simp only [impl_RankLinear.l1]; rfl) (Ev.no (by omega) (Ev.yes (by omega) ?_))
  rw [shlN (by omega), bits_orN (lt_pow hs (by omega)) (Nat.pow_lt_pow_right (by decide) (by omega))]
  exact h
 ·intro j hj ih acc h
  have hm := nextN_get hj
  have hd : (nextN p s).drop j = (nextN p s).getD j 0 :: (nextN p s).drop (j + 1) := by
   rw [List.drop_eq_getElem_cons hj, List.getD_eq_getElem?_getD, List.getElem?_eq_getElem hj]; rfl
  rw [hd] at h
  refine Ev.step (by intro k; simp only [impl_RankLinear.l1]; rfl) (Ev.yes (by omega) (Ev.yes (by omega) (Ev.yes (by rw [ints_len]; omega) ?_)))
  rw [rd_ints, wid1 hj (by omega)]
  generalize (nextN p s).getD j 0 = e at h hm
  obtain ⟨h1, h2⟩ := Wl_next hp hs hid hm
  have he := (mem_nextN.1 hm).2.1
  rw [List.filter_cons] at h
  by_cases hlt : e < own
  ·rw [decide_eq_true hlt] at h
   refine Ev.yes (by omega) (Ev.yes (by omega) ?_)
   rw [shlN (by omega), bits_orN (lt_pow hs (by omega)) (Nat.pow_lt_pow_right (by decide) (by omega))]
   refine Ev.yes (by omega) (Ev.yes (by rw [Wl_len]; omega) ?_)
   rw [rdN, h2]
   refine ih _ ?_
   simpa [rkF] using h
  ·rw [decide_eq_false hlt] at h
   exact Ev.no (by omega) (ih acc (by simpa using h))
theorem rank_run {p : List Int} (hp : PO p) (w : List Int) (hw : w.length ≤ 10) : ∀ i, i ≤ w.length → ∀ (s : Nat) (acc : Int), s < 2 ^ p.length → idealB p s = true → ordRun p s (w.drop i) = some (allN p) →
 ∃ r : Int, Ev (fun k => spec_RankLinear.l0 k (Cl p 0) acc (s : Int) w (w.length : Int) (i : Int) p) (r, true) ∧ Ev (fun k => impl_RankLinear.l0 k (Wl p 0) acc (s : Int) w (w.length : Int) (i : Int) p) (r, true) := by
 have hn := hp.small
 refine downTo _ ?_ ?_
 ·intro s acc _ _ _
  exact ⟨acc, Ev.step (by intro k; simp only [spec_RankLinear.l0]; rfl) (Ev.no (by omega) (Ev.now _)), Ev.step (by intro k; simp only [impl_RankLinear.l0]; rfl) (Ev.no (by omega) (Ev.now _))⟩
 ·intro i hi ih s acc hs hid ho
  rw [drop_getD w hi] at ho
  simp only [ordRun] at ho
  split at ho
  rotate_left
  ·cases ho
  rename_i hc
  obtain ⟨⟨c1, c2⟩, c3, c4⟩ := hc
  obtain ⟨own, he⟩ := Int.eq_ofNat_of_zero_le c1
  rw [he, Int.toNat_natCast] at c3 c4 ho
  rw [he] at c2
  have hown : own < p.length := by omega
  have hmem : own ∈ nextN p s := mem_nextN.2 ⟨by omega, hown, c3, c4⟩
  obtain ⟨r, g1, g2⟩ := ih (s ||| 2 ^ own) (rkF p s acc (nextTo p s own 0)) (or_lt hs (pow_lt_pow hown)) (idealB_add hp hid hmem) ho
  have ew : wrap64 ((i : Int) + 1) = ((i + 1 : Nat) : Int) := wid1 hi (by omega)
  refine ⟨r, Ev.step (by intro k; simp only [spec_RankLinear.l0]; rfl) (Ev.yes (by omega) (Ev.yes (by omega) (Ev.yes (by omega) ?_))), Ev.step (by intro k; simp only [impl_RankLinear.l0]; rfl) (Ev.yes (by omega) (Ev.yes (by omega) (Ev.yes (by omega) (Ev.bind (next_ev hp hs) ?_))))⟩
  ·rw [rdN, he]
   refine rank_spec_in hp hs hown w _ _ _ 0 (Nat.zero_le _) acc ?_
   rw [ew]; exact g1
  ·rw [rdN, he, ints_len]
   refine rank_impl_in hp hs hid hown w _ _ _ 0 (Nat.zero_le _) acc ?_
   rw [ew, List.drop_zero, nextTo_eq hn (by omega)]; exact g2
theorem RankLinear_same (p : List Int) (hp : p.length ≤ 1048576) (_ : ∀ n ∈ p, (Lit.int .i64 n).wf = true) (w : List Int) (hw : w.length ≤ 1048576) (_ : ∀ n ∈ w, (Lit.int .i64 n).wf = true) :
 ∃ r, Ev (fun k => spec_RankLinear.f k p w) r ∧ Ev (fun k => impl_RankLinear.f k p w) r ∧ True := by
 unfold spec_RankLinear.f impl_RankLinear.f
 have stop : Ev (fun k => spec_RankLinear.j0 k w true p) (0, false) := Ev.step (by intro k; simp only [spec_RankLinear.j0]; rfl) (Ev.yes (show true = true from rfl) (Ev.now _))
 cases hpo : isPo p with
 | false =>
  have h : linB p w = false := by unfold linB; rw [hpo]; rfl
  refine ⟨(0, false), Ev.bind (poGood_ev p) ?_, Ev.bind (isLinear_ev p w (by omega)) ?_, trivial⟩
  ·rw [hpo]; exact Ev.no (by simp) stop
  ·rw [h]; exact Ev.no (by simp) (Ev.now _)
 | true =>
 have hP := (isPo_iff p).1 hpo
 cases ho : ordB p w with
 | false =>
  have h : linB p w = false := by unfold linB; rw [hpo, ho]; rfl
  refine ⟨(0, false), Ev.bind (poGood_ev p) ?_, Ev.bind (isLinear_ev p w (by omega)) ?_, trivial⟩
  ·rw [hpo]
   refine Ev.yes rfl (Ev.bind (liIs_ev hP w) ?_)
   rw [ho]; exact stop
  ·rw [h]; exact Ev.no (by simp) (Ev.now _)
 | true =>
  have h : linB p w = true := by unfold linB; rw [hpo, ho]; rfl
  have hl := ordB_len ho
  have hn := hP.small
  obtain ⟨r, g1, g2⟩ := rank_run hP w (by omega) 0 (Nat.zero_le _) 0 0 (Nat.two_pow_pos _) (idealB_zero p) (by rw [List.drop_zero]; exact ordB_iff.1 ho)
  refine ⟨(r, true), Ev.bind (poGood_ev p) ?_, Ev.bind (isLinear_ev p w (by omega)) ?_, trivial⟩
  ·rw [hpo]
   refine Ev.yes rfl (Ev.bind (liIs_ev hP w) ?_)
   rw [ho]
   show Ev (fun k => spec_RankLinear.j0 k w false p) _
   exact Ev.step (by intro k; simp only [spec_RankLinear.j0]; rfl) (Ev.no (by simp) (Ev.bind (liCounts_ev hP) g1))
  ·rw [h]
   exact Ev.yes rfl (Ev.bind (ways_table hP) g2)
end Go.Proofs.Ytmbojobkiainlaa.Q
end

section
namespace Go.Proofs.Ytmbojobkiainlaa.F
open Go.RowKit Go.Proofs.YtmbojobkiainlaaW.PrintWords Go.Proofs.YtmbojobkiainlaaW.PrintLast Go.Proofs.YtmbojobkiainlaaW.PrintMore
set_option linter.unusedVariables false
set_option linter.unusedSimpArgs false
/-- The four captured variables: the poset, the list of orders, the order under way, the function itself. -/
structure FewA where
 gp : Nat
 go : Nat
 gw : Nat
 gf : Nat
 A0 : Option Addr
 c0 : Nat
 p : List Int
 w : World
def FewA.caps (S : FewA) : Array Value := #[.pointer (some ⟨S.gp, 0, none⟩), .pointer (some ⟨S.go, 0, none⟩), .pointer (some ⟨S.gw, 0, none⟩), .pointer (some ⟨S.gf, 0, none⟩)]
structure FewA.Ok (S : FewA) : Prop where
 C : Kd.C (Kd.int .i64) S.w S.A0 S.p.length S.p
 le : S.p.length ≤ S.c0
 bp : S.w.heap.size ≤ S.gp
 bo : S.w.heap.size ≤ S.go
 bw : S.w.heap.size ≤ S.gw
 bf : S.w.heap.size ≤ S.gf
 po : S.gp ≠ S.go
 pw : S.gp ≠ S.gw
 pf : S.gp ≠ S.gf
 ow : S.go ≠ S.gw
 of_ : S.go ≠ S.gf
 wf : S.gw ≠ S.gf
def FewA.ok (S : FewA) (av : Nat → Prop) (k : Nat) : Prop := k ≠ S.gp ∧ k ≠ S.go ∧ k ≠ S.gw ∧ k ≠ S.gf ∧ ¬ av k
/-- What holds between the calls. -/
structure FewI (S : FewA) (av : Nat → Prop) (vo vw : Value) (o : List (List Int)) (wl : List Int) (W : World) : Prop where
 below : Below S.w.heap.size S.w W
 cp : W.heap[S.gp]? = some (.cells #[.slice S.A0 S.p.length S.c0] 26 (0, 0))
 co : W.heap[S.go]? = some (.cells #[vo] 58 (0, 0))
 cw : W.heap[S.gw]? = some (.cells #[vw] 24 (0, 0))
 cf : W.heap[S.gf]? = some (.cells #[.func (.func 147) #[] S.caps] 97 (0, 0))
 HO : Kd.S (Kd.slice 3 (Kd.int .i64)) 24 W S.w.heap.size (fun k => S.ok av k ∧ some k ≠ vw.ownBlock) vo o
 HW : Kd.R (Kd.int .i64) 3 W S.w.heap.size (S.ok av) vw wl
 avlt : ∀ k, av k → k < W.heap.size
 nav : ¬ av S.gp ∧ ¬ av S.go ∧ ¬ av S.gw ∧ ¬ av S.gf
theorem FewI.step {S : FewA} {av : Nat → Prop} {vo vw : Value} {o : List (List Int)} {wl : List Int} {W W1 : World} (h : FewI S av vo vw o wl W) (hb : Below W.heap.size W W1) : FewI S av vo vw o wl W1 :=
 ⟨below_step h.below hb, blk_below h.cp hb, blk_below h.co hb, blk_below h.cw hb, blk_below h.cf hb, Kd.S_below h.HO hb, Kd.R_below h.HW hb, fun k hk => Nat.lt_of_lt_of_le (h.avlt k hk) hb.size, h.nav⟩
theorem FewI.far {S : FewA} (hS : S.Ok) {av : Nat → Prop} {vo vw : Value} {o : List (List Int)} {wl : List Int} {W : World} (h : FewI S av vo vw o wl W) {k : Nat} (hk : W.heap.size ≤ k) : S.ok av k :=
 ⟨by have := blk_lt h.cp; omega, by have := blk_lt h.co; omega, by have := blk_lt h.cw; omega, by have := blk_lt h.cf; omega, fun ha => by have := h.avlt k ha; omega⟩
def FewKeep (av : Nat → Prop) (W W' : World) : Prop := W.heap.size ≤ W'.heap.size ∧ ∀ k, av k → W'.heap[k]? = W.heap[k]?
theorem FewKeep.refl (av : Nat → Prop) (W : World) : FewKeep av W W := ⟨Nat.le_refl _, fun _ _ => rfl⟩
theorem FewKeep.trans {av : Nat → Prop} {W1 W2 W3 : World} (h : FewKeep av W1 W2) (h' : FewKeep av W2 W3) : FewKeep av W1 W3 := ⟨Nat.le_trans h.1 h'.1, fun k hk => (h'.2 k hk).trans (h.2 k hk)⟩
theorem FewKeep.of_below {av : Nat → Prop} {W W1 : World} (hlt : ∀ k, av k → k < W.heap.size) (hb : Below W.heap.size W W1) : FewKeep av W W1 := ⟨hb.size, fun k hk => hb.block k (hlt k hk)⟩
theorem few_size (w : World) (a : Addr) (v : Value) : (w.setCell a v).heap.size = w.heap.size := by
 rcases a with ⟨b, o, sp⟩
 simp [World.setCell]
/-- A new list of orders is stored. -/
theorem FewI.put_out {S : FewA} (hS : S.Ok) {av : Nat → Prop} {vo vw v1 : Value} {o o' : List (List Int)} {wl : List Int} {W w1 : World} (h : FewI S av vo vw o wl W)
 (hs : Kd.S (Kd.slice 3 (Kd.int .i64)) 24 w1 S.w.heap.size (fun k => S.ok av k ∧ some k ≠ vw.ownBlock) v1 o') (hb : Below S.w.heap.size S.w w1) (hg : W.grownBy w1 vo.ownBlock) :
 FewI S av v1 vw o' wl (w1.setCell ⟨S.go, 0, none⟩ v1) ∧ FewKeep av W (w1.setCell ⟨S.go, 0, none⟩ v1) := by
 have hvo : ∀ k, vo.ownBlock = some k → S.ok av k ∧ some k ≠ vw.ownBlock := (Kd.S_R h.HO).1
 have hne : ∀ k, ¬ S.ok av k → some k ≠ vo.ownBlock := fun k hk e => hk (hvo k e.symm).1
 have hgo : S.w.heap.size ≤ S.go := hS.bo
 have g1 := blk_grown h.cp hg (hne _ (fun h => h.1 rfl))
 have g2 := blk_grown h.co hg (hne _ (fun h => h.2.1 rfl))
 have g3 := blk_grown h.cw hg (hne _ (fun h => h.2.2.1 rfl))
 have g4 := blk_grown h.cf hg (hne _ (fun h => h.2.2.2.1 rfl))
 have hs' := Kd.S_far hs (p := ⟨S.go, 0, none⟩) (fun k hk => hk.1.2.1) v1
 have hw0 := Kd.R_step (Kd.R_tight2 rfl h.HW) (w1 := w1) (fun k ho hk => hg.block k hk (fun e => (hvo k e.symm).2 ho.1))
 have hw' := Kd.R_far (Kd.R_mono (ok' := S.ok av) hw0 (fun k hk => hk.2)) (p := ⟨S.go, 0, none⟩) (fun k hk => hk.2.1) v1
 refine ⟨⟨below_set hb hgo, ?_, one_setCell g2, ?_, ?_, hs', hw', fun k hk => ?_, h.nav⟩, ?_, fun k hk => ?_⟩
 ·exact (Below.heap_setCell _ _ _ _ hS.po).trans g1
 ·exact (Below.heap_setCell _ _ _ _ (Ne.symm hS.ow)).trans g3
 ·exact (Below.heap_setCell _ _ _ _ (Ne.symm hS.of_)).trans g4
 ·rw [few_size]; exact Nat.lt_of_lt_of_le (h.avlt k hk) hg.size
 ·rw [few_size]; exact hg.size
 ·have hkg : k ≠ S.go := fun e => h.nav.2.1 (e ▸ hk)
  exact (Below.heap_setCell _ _ _ _ hkg).trans (hg.block k (h.avlt k hk) (hne k (fun h => h.2.2.2.2 hk)))
theorem FewI.go_kept {S : FewA} {av : Nat → Prop} {vo vw : Value} {o : List (List Int)} {wl : List Int} {W w1 : World} (h : FewI S av vo vw o wl W) (hg : W.grownBy w1 vo.ownBlock) : w1.heap[S.go]? = some (.cells #[vo] 58 (0, 0)) :=
 blk_grown h.co hg (fun e => ((Kd.S_R h.HO).1 _ e.symm).1.2.1 rfl)
theorem FewI.vw_lt {S : FewA} {av : Nat → Prop} {vo vw : Value} {o : List (List Int)} {wl : List Int} {W : World} (h : FewI S av vo vw o wl W) {k : Nat} (hk : W.heap.size ≤ k) : some k ≠ vw.ownBlock := fun e => by
 have := Kd.R_lt h.HW k e.symm; omega
theorem few_new {S : FewA} (hS : S.Ok) {av : Nat → Prop} {vo vw v2 : Value} {o : List (List Int)} {wl l2 : List Int} {W W2 : World} (h : FewI S av vo vw o wl W) (hr : Kd.R (Kd.int .i64) 3 W2 W.heap.size (fun _ => True) v2 l2) :
 ∀ k, some k = v2.ownBlock → (S.ok av k ∧ some k ≠ vw.ownBlock) ∧ some k ≠ vo.ownBlock := fun k hk => by
 have hb := Kd.R_base hr k hk.symm
 refine ⟨⟨h.far hS hb, h.vw_lt hb⟩, fun e => ?_⟩
 have := Kd.S_lt h.HO k e.symm; omega
theorem few_old {S : FewA} {av : Nat → Prop} {vo vw v2 : Value} {o : List (List Int)} {wl l2 : List Int} {W W2 : World} (h : FewI S av vo vw o wl W) (hb : Below W.heap.size W W2) (hr : Kd.R (Kd.int .i64) 3 W2 W.heap.size (fun _ => True) v2 l2) :
 Kd.S (Kd.slice 3 (Kd.int .i64)) 24 W2 S.w.heap.size (fun k => (S.ok av k ∧ some k ≠ vw.ownBlock) ∧ ¬ some k = v2.ownBlock) vo o := by
 refine Kd.S_below (Kd.S_mono (Kd.S_bound h.HO) (fun k hk => ⟨hk.1, fun e => ?_⟩)) hb
 have h1 := Kd.R_base hr k e.symm
 have h2 := hk.2.2.1
 omega
/-- A new order under way is stored. -/
theorem FewI.put_w {S : FewA} (hS : S.Ok) {av : Nat → Prop} {vo vw v1 : Value} {o : List (List Int)} {wl wl' : List Int} {W w1 : World} (h : FewI S av vo vw o wl W)
 (hr : Kd.R (Kd.int .i64) 3 w1 S.w.heap.size (S.ok av) v1 wl') (hb : Below S.w.heap.size S.w w1) (hg : W.grownBy w1 vw.ownBlock) (hat : v1.ownBlock = vw.ownBlock ∨ ∃ b, v1.ownBlock = some b ∧ W.heap.size ≤ b) :
 FewI S av vo v1 o wl' (w1.setCell ⟨S.gw, 0, none⟩ v1) ∧ FewKeep av W (w1.setCell ⟨S.gw, 0, none⟩ v1) := by
 have hvw : ∀ k, vw.ownBlock = some k → S.ok av k := h.HW.1
 have hne : ∀ k, ¬ S.ok av k → some k ≠ vw.ownBlock := fun k hk e => hk (hvw k e.symm)
 have hgw : S.w.heap.size ≤ S.gw := hS.bw
 have g1 := blk_grown h.cp hg (hne _ (fun h => h.1 rfl))
 have g2 := blk_grown h.co hg (hne _ (fun h => h.2.1 rfl))
 have g3 := blk_grown h.cw hg (hne _ (fun h => h.2.2.1 rfl))
 have g4 := blk_grown h.cf hg (hne _ (fun h => h.2.2.2.1 rfl))
 have hs' := Kd.S_far (Kd.S_after h.HO hg hat) (p := ⟨S.gw, 0, none⟩) (fun k hk => hk.1.2.2.1) v1
 have hw' := Kd.R_far hr (p := ⟨S.gw, 0, none⟩) (fun k hk => hk.2.2.1) v1
 refine ⟨⟨below_set hb hgw, ?_, ?_, one_setCell g3, ?_, hs', hw', fun k hk => ?_, h.nav⟩, ?_, fun k hk => ?_⟩
 ·exact (Below.heap_setCell _ _ _ _ hS.pw).trans g1
 ·exact (Below.heap_setCell _ _ _ _ hS.ow).trans g2
 ·exact (Below.heap_setCell _ _ _ _ (Ne.symm hS.wf)).trans g4
 ·rw [few_size]; exact Nat.lt_of_lt_of_le (h.avlt k hk) hg.size
 ·rw [few_size]; exact hg.size
 ·have hkg : k ≠ S.gw := fun e => h.nav.2.2.1 (e ▸ hk)
  exact (Below.heap_setCell _ _ _ _ hkg).trans (hg.block k (h.avlt k hk) (hne k (fun h => h.2.2.2.2 hk)))
theorem FewI.gw_kept {S : FewA} {av : Nat → Prop} {vo vw : Value} {o : List (List Int)} {wl : List Int} {W w1 : World} (h : FewI S av vo vw o wl W) (hg : W.grownBy w1 vw.ownBlock) : w1.heap[S.gw]? = some (.cells #[vw] 24 (0, 0)) :=
 blk_grown h.cw hg (fun e => (h.HW.1 _ e.symm).2.2.1 rfl)
theorem FewI.gf_kept {S : FewA} {av : Nat → Prop} {vo vw : Value} {o : List (List Int)} {wl : List Int} {W w1 : World} (h : FewI S av vo vw o wl W) (hg : W.grownBy w1 vw.ownBlock) : w1.heap[S.gf]? = some (.cells #[.func (.func 147) #[] S.caps] 97 (0, 0)) :=
 blk_grown h.cf hg (fun e => (h.HW.1 _ e.symm).2.2.2.1 rfl)
def fewAv (av : Nat → Prop) (v : Value) (k : Nat) : Prop := av k ∨ some k = v.ownBlock
/-- A fresh row is to be left alone too. -/
theorem FewI.with_row {S : FewA} {av : Nat → Prop} {vo vw vl : Value} {o : List (List Int)} {wl l : List Int} {W W2 : World} (h : FewI S av vo vw o wl W) (hb : Below W.heap.size W W2) (hr : Kd.R (Kd.int .i64) 3 W2 W.heap.size (fun _ => True) vl l) : FewI S (fewAv av vl) vo vw o wl W2 := by
 have h2 := h.step hb
 have hv : ∀ k, some k = vl.ownBlock → W.heap.size ≤ k := fun k e => Kd.R_base hr k e.symm
 refine ⟨h2.below, h2.cp, h2.co, h2.cw, h2.cf, ?_, ?_, ?_, ?_⟩
 ·refine Kd.S_below (Kd.S_mono (Kd.S_bound h.HO) (fun k hk => ⟨⟨hk.1.1.1, hk.1.1.2.1, hk.1.1.2.2.1, hk.1.1.2.2.2.1, fun hx => ?_⟩, hk.1.2⟩)) hb
  rcases hx with hx | hx
  ·exact hk.1.1.2.2.2.2 hx
  ·have := hv k hx; have := hk.2.2.1; omega
 ·refine Kd.R_below (Kd.R_mono (Kd.R_bound h.HW) (fun k hk => ⟨hk.1.1, hk.1.2.1, hk.1.2.2.1, hk.1.2.2.2.1, fun hx => ?_⟩)) hb
  rcases hx with hx | hx
  ·exact hk.1.2.2.2.2 hx
  ·have := hv k hx; have := hk.2.2.1; omega
 ·intro k hk
  rcases hk with hk | hk
  ·exact h2.avlt k hk
  ·exact Kd.R_lt hr k hk.symm
 ·have l1 := blk_lt h.cp
  have l2 := blk_lt h.co
  have l3 := blk_lt h.cw
  have l4 := blk_lt h.cf
  refine ⟨?_, ?_, ?_, ?_⟩ <;> rintro (hx | hx)
  ·exact h.nav.1 hx
  ·have := hv _ hx; omega
  ·exact h.nav.2.1 hx
  ·have := hv _ hx; omega
  ·exact h.nav.2.2.1 hx
  ·have := hv _ hx; omega
  ·exact h.nav.2.2.2 hx
  ·have := hv _ hx; omega
/-- .. and forgotten. -/
theorem FewI.forget {S : FewA} {av : Nat → Prop} {vo vw vl : Value} {o : List (List Int)} {wl : List Int} {W : World} (h : FewI S (fewAv av vl) vo vw o wl W) : FewI S av vo vw o wl W :=
 ⟨h.below, h.cp, h.co, h.cw, h.cf, Kd.S_mono h.HO (fun k hk => ⟨⟨hk.1.1, hk.1.2.1, hk.1.2.2.1, hk.1.2.2.2.1, fun hx => hk.1.2.2.2.2 (.inl hx)⟩, hk.2⟩), Kd.R_mono h.HW (fun k hk => ⟨hk.1, hk.2.1, hk.2.2.1, hk.2.2.2.1, fun hx => hk.2.2.2.2 (.inl hx)⟩), fun k hk => h.avlt k (.inl hk), fun hx => h.nav.1 (.inl hx), fun hx => h.nav.2.1 (.inl hx), fun hx => h.nav.2.2.1 (.inl hx), fun hx => h.nav.2.2.2 (.inl hx)⟩
theorem FewKeep.forget {av : Nat → Prop} {vl : Value} {W W1 : World} (h : FewKeep (fewAv av vl) W W1) : FewKeep av W W1 := ⟨h.1, fun k hk => h.2 k (.inl hk)⟩
theorem few_cell {av : Nat → Prop} {l : List Int} {W W1 : World} {b g c : Nat} (hr : Kd.R (Kd.int .i64) 3 W b (fun _ => True) (.slice (some ⟨g, 0, none⟩) l.length c) l) (hk : FewKeep (fewAv av (.slice (some ⟨g, 0, none⟩) l.length c)) W W1) (i : Nat) (hi : i < l.length) :
 W1.cell? ⟨g, i, none⟩ = some (.int .i64 (rd l (i : Int))) := by
 have h1 := Kd.R_move (Kd.R_tight rfl hr) (w1 := W1) (fun k hk' => hk.2 k (.inr hk'))
 have h2 := (Kd.R_cell (0 : Int) h1 (i : Int) (by omega) (by omega)).1
 rwa [Int.toNat_natCast] at h2
theorem few_rd {l : List Int} {i : Nat} {e : Int} {m : List Int} (h : l.drop i = e :: m) : i < l.length ∧ rd l (i : Int) = e ∧ l.drop (i + 1) = m := by
 have hi : i < l.length := by
  rcases Nat.lt_or_ge i l.length with h' | h'
  ·exact h'
  ·rw [List.drop_eq_nil_of_le h'] at h; cases h
 rw [List.drop_eq_getElem_cons hi] at h
 injection h with h1 h2
 refine ⟨hi, ?_, h2⟩
 unfold rd
 rw [Int.toNat_natCast, ← h1]
 simp [hi]
def few_row (g : Int → List Int → Option (List (List Int))) (s : Int) (w : List Int) : List Int → Option (List (List Int))
 | [] => some []
 | e :: l => if 0 ≤ e ∧ w.length ≤ 1000 then (g (Go.bits .or .i64 s (shl .i64 1 e)) (w ++ [e])).bind fun o => (few_row g s w l).bind fun o' => some (o ++ o') else none
def few_put (F : Nat) (p : List Int) : Nat → Int → List Int → Option (List (List Int))
 | 0, _, _ => none
 | d + 1, s, w => (impl_Poset_all.f p).bind fun t => if s = t then (if w.length ≤ 1000 then some [w] else none) else (impl_Poset_next.f F p s).bind fun l => if l.length ≤ 1000 then few_row (few_put F p d) s w l else none
theorem few_shl (e : Int) : shl .i64 1 e = IntKind.i64.wrap (2 ^ min e.toNat 64) := by
 unfold shl
 rw [Int.one_mul]
 rfl
theorem few_w64 (n : Nat) (h : n ≤ 1001) : wrap64 (n : Int) = (n : Int) := by
 unfold wrap64
 omega
theorem few_empty {X : World} {base n e sz : Nat} (hn : base ≤ n) (hx : X.heap[n]? = some (.cells #[] e (0, 0))) : X.ownsRow base e sz (.slice (some ⟨n, 0, none⟩) 0 0) 0 [] :=
 ⟨by simp, .inr ⟨n, 0, #[], rfl, hn, hx, by omega, by omega, by simp, by simp⟩⟩
theorem few_emptyR {α : Type} (d : Kd α) {X : World} {base n e : Nat} {ok : Nat → Prop} (hn : base ≤ n) (hx : X.heap[n]? = some (.cells #[] e (0, 0))) (hok : ok n) : d.R e X base ok (.slice (some ⟨n, 0, none⟩) 0 0) ([] : List α) :=
 ⟨fun k hk => by
  have : n = k := by simpa [Value.ownBlock] using hk
  exact this ▸ hok, [], few_empty hn hx, Reps.none _ _⟩
/-- The world in which the function is made. -/
def fewWorld (w2 : World) (c : Array Value) : World :=
 ((((w2.alloc (.cells #[] 24)).alloc (.cells #[] 3)).alloc (.cells #[.slice (some ⟨w2.heap.size, 0, none⟩) 0 0] 58)).alloc (.cells #[.slice (some ⟨w2.heap.size + 1, 0, none⟩) 0 0] 24)).alloc (.cells #[.func (.func 147) #[] c] 97)
theorem few_start {w w2 : World} {A : Option Addr} {c : Nat} {p : List Int} (hC : Kd.C (Kd.int .i64) w A p.length p) (hle : p.length ≤ c) (hb : Below w.heap.size w w2) (hp : w2.heap[w.heap.size]? = some (.cells #[.slice A p.length c] 26 (0, 0))) :
 ∃ S : FewA, S.Ok ∧ S.p = p ∧ S.w = w ∧ S.gp = w.heap.size ∧ S.go = w2.heap.size + 1 + 1 ∧ S.gw = w2.heap.size + 1 + 1 + 1 ∧ S.gf = w2.heap.size + 1 + 1 + 1 + 1 ∧
  FewI S (fun _ => False) (.slice (some ⟨w2.heap.size, 0, none⟩) 0 0) (.slice (some ⟨w2.heap.size + 1, 0, none⟩) 0 0) [] [] (fewWorld w2 S.caps) := by
 have hlt := blk_lt hp
 have hsz := hb.size
 refine ⟨⟨w.heap.size, w2.heap.size + 1 + 1, w2.heap.size + 1 + 1 + 1, w2.heap.size + 1 + 1 + 1 + 1, A, c, p, w⟩, ⟨hC, hle, Nat.le_refl _, by simp; omega, by simp; omega, by simp; omega, by simp; omega, by simp; omega, by simp; omega, by simp, by simp, by simp⟩, rfl, rfl, rfl, rfl, rfl, rfl, ?_⟩
 unfold FewA.caps fewWorld
 have k1 : ∀ a : Obj, (w2.alloc a).heap[w2.heap.size]? = some a := fun a => blk_new w2 a
 have k2 : ∀ a b : Obj, ((w2.alloc a).alloc b).heap[w2.heap.size + 1]? = some b := fun a b => by simpa using blk_new (w2.alloc a) b
 have k3 : ∀ a b c : Obj, (((w2.alloc a).alloc b).alloc c).heap[w2.heap.size + 1 + 1]? = some c := fun a b c => by simpa using blk_new ((w2.alloc a).alloc b) c
 have k4 : ∀ a b c d : Obj, ((((w2.alloc a).alloc b).alloc c).alloc d).heap[w2.heap.size + 1 + 1 + 1]? = some d := fun a b c d => by simpa using blk_new (((w2.alloc a).alloc b).alloc c) d
 have k5 : ∀ a b c d e : Obj, (((((w2.alloc a).alloc b).alloc c).alloc d).alloc e).heap[w2.heap.size + 1 + 1 + 1 + 1]? = some e := fun a b c d e => by simpa using blk_new ((((w2.alloc a).alloc b).alloc c).alloc d) e
 refine ⟨?_, ?_, ?_, ?_, ?_, ?_, ?_, fun k hk => hk.elim, ⟨id, id, id, id⟩⟩
 ·exact below_alloc (below_alloc (below_alloc (below_alloc (below_alloc hb _) _) _) _) _
 ·exact (blk_alloc (blk_alloc (blk_alloc (blk_alloc (blk_alloc hp _) _) _) _) _)
 ·exact (blk_alloc (blk_alloc (k3 _ _ _) _) _)
 ·exact (blk_alloc (k4 _ _ _ _) _)
 ·exact k5 _ _ _ _ _
 ·refine ⟨fun _ => 0, few_emptyR _ hsz ((blk_alloc (blk_alloc (blk_alloc (blk_alloc (k1 _) _) _) _) _)) ⟨⟨?_, ?_, ?_, ?_, id⟩, ?_⟩⟩
  ·show w2.heap.size ≠ w.heap.size; omega
  ·show w2.heap.size ≠ w2.heap.size + 1 + 1; omega
  ·show w2.heap.size ≠ w2.heap.size + 1 + 1 + 1; omega
  ·show w2.heap.size ≠ w2.heap.size + 1 + 1 + 1 + 1; omega
  ·intro e
   simp [Value.ownBlock] at e
 ·refine few_emptyR _ (Nat.le_succ_of_le hsz) ((blk_alloc (blk_alloc (blk_alloc (k2 _ _) _) _) _)) ⟨?_, ?_, ?_, ?_, id⟩
  ·show w2.heap.size + 1 ≠ w.heap.size; omega
  ·show w2.heap.size + 1 ≠ w2.heap.size + 1 + 1; omega
  ·show w2.heap.size + 1 ≠ w2.heap.size + 1 + 1 + 1; omega
  ·show w2.heap.size + 1 ≠ w2.heap.size + 1 + 1 + 1 + 1; omega
set_option maxHeartbeats 8000000 in
set_option maxRecDepth 100000 in
theorem few_all {S : FewA} (hS : S.Ok) {av : Nat → Prop} {vo vw : Value} {o : List (List Int)} {wl : List Int} {W : World} (h : FewI S av vo vw o wl W) (s : Int) (hal : impl_Poset_all.f S.p = some s) (hlen : wl.length ≤ 1000) (hol : (o.length + 1) * 24 ≤ 140737488355328) :
 Calls Try.prog 147 #[.int .i64 s, .pointer (some ⟨S.gp, 0, none⟩), .pointer (some ⟨S.go, 0, none⟩), .pointer (some ⟨S.gw, 0, none⟩), .pointer (some ⟨S.gf, 0, none⟩)] W fun e W' => e = .returned (.tuple #[]) ∧ ∃ vo', FewI S av vo' vw (o ++ [wl]) wl W' ∧ FewKeep av W W' := by
 have hu28 := Try.underlying26
 obtain ⟨Aw, cw, rfl, hlw, hCw⟩ := Kd.R_reads h.HW
 have hcp : W.cell? ⟨S.gp, 0, none⟩ = some (.slice S.A0 S.p.length S.c0) := (blk_cell h.cp 0).trans rfl
 have HALL := am (impl_Poset_all.calls S.A0 S.c0 S.p s W (Kd.C_below hS.C h.below) hS.le hal)
 have hco := blk_cell h.co 0
 have hcw := blk_cell h.cw 0
 have hfo := blk_frozen h.co 0
 have HI := am h
 have HLW := am hlw
 have HCW := am hCw
 have HL := am hlen
 have HOL := am hol
 clear h hlw hCw hlen hol hal
 go_enter Try.func147, Try.ntmps147
 go_wp2_with (go_at_call 114; (with_reducible refine HALL.out.mono ?_); rintro e W1 ⟨rfl, hb1⟩; have HI1 := am (HI.out.step hb1); have hco1 : W1.cell? ⟨S.go, 0, none⟩ = some vo := (blk_cell HI1.out.co 0).trans rfl; have hcw1 : W1.cell? ⟨S.gw, 0, none⟩ = some (.slice Aw wl.length cw) := (blk_cell HI1.out.cw 0).trans rfl;  have HCW1 := am (Kd.C_below HCW.out hb1); have HB1 := am hb1; clear hb1)
 refine wp_region_any (by kernel_rfl) ?_
 change wpAny _ _ _ _ _ _ _ (World.drew _)
 refine wpAny_ready (rs := [0, 1]) (by kernel_rfl) (by simp) ?_
 refine AllReady.cons rfl (fun K hK => ?_) ?_
 ·-- 0
  go_simp
  refine hK _ _ ?_
  clear hK K
  refine wpAny_ready (rs := [1]) (by kernel_rfl) (by simp) ?_
  refine AllReady.cons rfl (fun K hK => ?_) ?_
  ·-- 1
   go_simp
   refine hK _ _ ?_
   clear hK K
   refine wpAny_ready (rs := [2]) (by kernel_rfl) (by simp) ?_
   refine AllReady.cons rfl (fun K hK => ?_) ?_
   ·-- 2
    go_simp
    go_at_call 129
    (with_reducible refine (slices_Clone_int_int.calls Aw cw wl wl _ (by (with_reducible repeat (first | apply Kd.C_drewN | apply Kd.C_drew)); exact HCW1.out) HLW.out (by unfold slices_Clone_int_int.f; rw [if_pos (by have := HL.out; omega)])).mono ?_)
    rintro e W2 ⟨v2, rfl, hr2, hb2⟩
    obtain ⟨A2, c2, rfl⟩ := Kd.R_slice hr2
    have HB2 : Aside0 (Below W1.heap.size W1 W2) := ⟨(below_drew (Below.refl W1.heap.size W1)).trans hb2⟩
    have HR2 : Aside0 (Kd.R (Kd.int .i64) 3 W2 W1.heap.size (fun _ => True) (.slice A2 wl.length c2) wl) := ⟨hr2⟩
    clear hr2 hb2
    have HI2 := am (HI1.out.step HB2.out)
    have hco2 : W2.cell? ⟨S.go, 0, none⟩ = some vo := (blk_cell HI2.out.co 0).trans rfl
    show K _ _
    refine hK _ _ ?_
    clear hK K
    refine wpAny_ready (rs := [3]) (by kernel_rfl) (by simp) ?_
    refine AllReady.cons rfl (fun K hK => ?_) ?_
    ·-- 3
     go_simp
     have hco3 : (W2.alloc (.cells #[.slice A2 wl.length c2] 24)).cell? ⟨S.go, 0, none⟩ = some vo := (blk_cell (blk_alloc HI2.out.co _) 0).trans rfl
     refine hK _ _ ?_
     clear hK K
     refine wpAny_ready (rs := [4]) (by kernel_rfl) (by simp) ?_
     refine AllReady.cons rfl (fun K hK => ?_) ?_
     ·-- 4
      refine Kd.S_append_step (Kd.slice 3 (Kd.int .i64)) (w0 := S.w) (W := W2) S.w.heap.size (by rfl) (.tmp 12) (.tmp 15) 58 24 (.slice none 0 0) 24 rfl Try.underlying58 info24 rfl (by decide) (by omega) vo o wl [.slice A2 wl.length c2] (fun k => S.ok av k ∧ some k ≠ (Value.slice Aw wl.length cw).ownBlock) (fun k => some k = (Value.slice A2 wl.length c2).ownBlock) rfl rfl ?_ (few_new hS HI1.out HR2.out) (fun k hk => ⟨HI2.out.far hS hk, HI2.out.vw_lt hk⟩) (few_old HI1.out HB2.out HR2.out) HI2.out.below HI2.out.below.size HOL.out ?_
      ·exact Kd.M_row (Kd.R_tight rfl (Kd.R_lower HR2.out HI1.out.below.size))
      intro v1 w1 hs1 hb1_ hg1 hat1
      obtain ⟨A1, n1, c1, rfl⟩ : ∃ A n c, v1 = .slice A n c := by obtain ⟨A, c, e⟩ := Kd.S_slice hs1; exact ⟨A, _, c, e⟩
      have HP := am (HI2.out.put_out hS hs1 hb1_ hg1)
      have hco4 : w1.cell? ⟨S.go, 0, none⟩ = some vo := (blk_cell (HI2.out.go_kept hg1) 0).trans rfl
      have hfo4 := blk_frozen (HI2.out.go_kept hg1) 0
      clear hs1 hb1_ hg1 hat1
      show K (Act.put _ (some 16) _) w1
      refine hK _ _ ?_
      clear hK K
      refine wpAny_ready (rs := [5]) (by kernel_rfl) (by simp) ?_
      refine AllReady.cons rfl (fun K hK => ?_) ?_
      ·-- 5
       go_simp
       refine hK _ _ ?_
       clear hK K
       refine wpAny_done (by kernel_rfl) ?_ _
       go_wp2
       exact bodyPost_ret (v := .tuple #[]) (by simp [results, Try.results147, go_sem]) rfl ⟨rfl, _, HP.out.1, (FewKeep.of_below HI.out.avlt HB1.out).trans ((FewKeep.of_below HI1.out.avlt HB2.out).trans HP.out.2)⟩
      exact AllReady.nil
     exact AllReady.nil
    exact AllReady.nil
   exact AllReady.nil
  exact AllReady.nil
 refine AllReady.cons rfl (fun K hK => ?_) ?_
 ·-- 1
  go_simp
  refine hK _ _ ?_
  clear hK K
  refine wpAny_ready (rs := [0, 2]) (by kernel_rfl) (by simp) ?_
  refine AllReady.cons rfl (fun K hK => ?_) ?_
  ·-- 0
   go_simp
   refine hK _ _ ?_
   clear hK K
   refine wpAny_ready (rs := [2]) (by kernel_rfl) (by simp) ?_
   refine AllReady.cons rfl (fun K hK => ?_) ?_
   ·-- 2
    go_simp
    go_at_call 129
    (with_reducible refine (slices_Clone_int_int.calls Aw cw wl wl _ (by (with_reducible repeat (first | apply Kd.C_drewN | apply Kd.C_drew)); exact HCW1.out) HLW.out (by unfold slices_Clone_int_int.f; rw [if_pos (by have := HL.out; omega)])).mono ?_)
    rintro e W2 ⟨v2, rfl, hr2, hb2⟩
    obtain ⟨A2, c2, rfl⟩ := Kd.R_slice hr2
    have HB2 : Aside0 (Below W1.heap.size W1 W2) := ⟨(below_drew (Below.refl W1.heap.size W1)).trans hb2⟩
    have HR2 : Aside0 (Kd.R (Kd.int .i64) 3 W2 W1.heap.size (fun _ => True) (.slice A2 wl.length c2) wl) := ⟨hr2⟩
    clear hr2 hb2
    have HI2 := am (HI1.out.step HB2.out)
    have hco2 : W2.cell? ⟨S.go, 0, none⟩ = some vo := (blk_cell HI2.out.co 0).trans rfl
    show K _ _
    refine hK _ _ ?_
    clear hK K
    refine wpAny_ready (rs := [3]) (by kernel_rfl) (by simp) ?_
    refine AllReady.cons rfl (fun K hK => ?_) ?_
    ·-- 3
     go_simp
     have hco3 : (W2.alloc (.cells #[.slice A2 wl.length c2] 24)).cell? ⟨S.go, 0, none⟩ = some vo := (blk_cell (blk_alloc HI2.out.co _) 0).trans rfl
     refine hK _ _ ?_
     clear hK K
     refine wpAny_ready (rs := [4]) (by kernel_rfl) (by simp) ?_
     refine AllReady.cons rfl (fun K hK => ?_) ?_
     ·-- 4
      refine Kd.S_append_step (Kd.slice 3 (Kd.int .i64)) (w0 := S.w) (W := W2) S.w.heap.size (by rfl) (.tmp 12) (.tmp 15) 58 24 (.slice none 0 0) 24 rfl Try.underlying58 info24 rfl (by decide) (by omega) vo o wl [.slice A2 wl.length c2] (fun k => S.ok av k ∧ some k ≠ (Value.slice Aw wl.length cw).ownBlock) (fun k => some k = (Value.slice A2 wl.length c2).ownBlock) rfl rfl ?_ (few_new hS HI1.out HR2.out) (fun k hk => ⟨HI2.out.far hS hk, HI2.out.vw_lt hk⟩) (few_old HI1.out HB2.out HR2.out) HI2.out.below HI2.out.below.size HOL.out ?_
      ·exact Kd.M_row (Kd.R_tight rfl (Kd.R_lower HR2.out HI1.out.below.size))
      intro v1 w1 hs1 hb1_ hg1 hat1
      obtain ⟨A1, n1, c1, rfl⟩ : ∃ A n c, v1 = .slice A n c := by obtain ⟨A, c, e⟩ := Kd.S_slice hs1; exact ⟨A, _, c, e⟩
      have HP := am (HI2.out.put_out hS hs1 hb1_ hg1)
      have hco4 : w1.cell? ⟨S.go, 0, none⟩ = some vo := (blk_cell (HI2.out.go_kept hg1) 0).trans rfl
      have hfo4 := blk_frozen (HI2.out.go_kept hg1) 0
      clear hs1 hb1_ hg1 hat1
      show K (Act.put _ (some 16) _) w1
      refine hK _ _ ?_
      clear hK K
      refine wpAny_ready (rs := [5]) (by kernel_rfl) (by simp) ?_
      refine AllReady.cons rfl (fun K hK => ?_) ?_
      ·-- 5
       go_simp
       refine hK _ _ ?_
       clear hK K
       refine wpAny_done (by kernel_rfl) ?_ _
       go_wp2
       exact bodyPost_ret (v := .tuple #[]) (by simp [results, Try.results147, go_sem]) rfl ⟨rfl, _, HP.out.1, (FewKeep.of_below HI.out.avlt HB1.out).trans ((FewKeep.of_below HI1.out.avlt HB2.out).trans HP.out.2)⟩
      exact AllReady.nil
     exact AllReady.nil
    exact AllReady.nil
   exact AllReady.nil
  refine AllReady.cons rfl (fun K hK => ?_) ?_
  ·-- 2
   go_simp
   go_at_call 129
   (with_reducible refine (slices_Clone_int_int.calls Aw cw wl wl _ (by (with_reducible repeat (first | apply Kd.C_drewN | apply Kd.C_drew)); exact HCW1.out) HLW.out (by unfold slices_Clone_int_int.f; rw [if_pos (by have := HL.out; omega)])).mono ?_)
   rintro e W2 ⟨v2, rfl, hr2, hb2⟩
   obtain ⟨A2, c2, rfl⟩ := Kd.R_slice hr2
   have HB2 : Aside0 (Below W1.heap.size W1 W2) := ⟨(below_drew (Below.refl W1.heap.size W1)).trans hb2⟩
   have HR2 : Aside0 (Kd.R (Kd.int .i64) 3 W2 W1.heap.size (fun _ => True) (.slice A2 wl.length c2) wl) := ⟨hr2⟩
   clear hr2 hb2
   have HI2 := am (HI1.out.step HB2.out)
   have hco2 : W2.cell? ⟨S.go, 0, none⟩ = some vo := (blk_cell HI2.out.co 0).trans rfl
   show K _ _
   refine hK _ _ ?_
   clear hK K
   refine wpAny_ready (rs := [0, 3]) (by kernel_rfl) (by simp) ?_
   refine AllReady.cons rfl (fun K hK => ?_) ?_
   ·-- 0
    go_simp
    refine hK _ _ ?_
    clear hK K
    refine wpAny_ready (rs := [3]) (by kernel_rfl) (by simp) ?_
    refine AllReady.cons rfl (fun K hK => ?_) ?_
    ·-- 3
     go_simp
     have hco3 : (W2.alloc (.cells #[.slice A2 wl.length c2] 24)).cell? ⟨S.go, 0, none⟩ = some vo := (blk_cell (blk_alloc HI2.out.co _) 0).trans rfl
     refine hK _ _ ?_
     clear hK K
     refine wpAny_ready (rs := [4]) (by kernel_rfl) (by simp) ?_
     refine AllReady.cons rfl (fun K hK => ?_) ?_
     ·-- 4
      refine Kd.S_append_step (Kd.slice 3 (Kd.int .i64)) (w0 := S.w) (W := W2) S.w.heap.size (by rfl) (.tmp 12) (.tmp 15) 58 24 (.slice none 0 0) 24 rfl Try.underlying58 info24 rfl (by decide) (by omega) vo o wl [.slice A2 wl.length c2] (fun k => S.ok av k ∧ some k ≠ (Value.slice Aw wl.length cw).ownBlock) (fun k => some k = (Value.slice A2 wl.length c2).ownBlock) rfl rfl ?_ (few_new hS HI1.out HR2.out) (fun k hk => ⟨HI2.out.far hS hk, HI2.out.vw_lt hk⟩) (few_old HI1.out HB2.out HR2.out) HI2.out.below HI2.out.below.size HOL.out ?_
      ·exact Kd.M_row (Kd.R_tight rfl (Kd.R_lower HR2.out HI1.out.below.size))
      intro v1 w1 hs1 hb1_ hg1 hat1
      obtain ⟨A1, n1, c1, rfl⟩ : ∃ A n c, v1 = .slice A n c := by obtain ⟨A, c, e⟩ := Kd.S_slice hs1; exact ⟨A, _, c, e⟩
      have HP := am (HI2.out.put_out hS hs1 hb1_ hg1)
      have hco4 : w1.cell? ⟨S.go, 0, none⟩ = some vo := (blk_cell (HI2.out.go_kept hg1) 0).trans rfl
      have hfo4 := blk_frozen (HI2.out.go_kept hg1) 0
      clear hs1 hb1_ hg1 hat1
      show K (Act.put _ (some 16) _) w1
      refine hK _ _ ?_
      clear hK K
      refine wpAny_ready (rs := [5]) (by kernel_rfl) (by simp) ?_
      refine AllReady.cons rfl (fun K hK => ?_) ?_
      ·-- 5
       go_simp
       refine hK _ _ ?_
       clear hK K
       refine wpAny_done (by kernel_rfl) ?_ _
       go_wp2
       exact bodyPost_ret (v := .tuple #[]) (by simp [results, Try.results147, go_sem]) rfl ⟨rfl, _, HP.out.1, (FewKeep.of_below HI.out.avlt HB1.out).trans ((FewKeep.of_below HI1.out.avlt HB2.out).trans HP.out.2)⟩
      exact AllReady.nil
     exact AllReady.nil
    exact AllReady.nil
   refine AllReady.cons rfl (fun K hK => ?_) ?_
   ·-- 3
    go_simp
    have hco3 : (W2.alloc (.cells #[.slice A2 wl.length c2] 24)).cell? ⟨S.go, 0, none⟩ = some vo := (blk_cell (blk_alloc HI2.out.co _) 0).trans rfl
    refine hK _ _ ?_
    clear hK K
    refine wpAny_ready (rs := [0]) (by kernel_rfl) (by simp) ?_
    refine AllReady.cons rfl (fun K hK => ?_) ?_
    ·-- 0
     go_simp
     refine hK _ _ ?_
     clear hK K
     refine wpAny_ready (rs := [4]) (by kernel_rfl) (by simp) ?_
     refine AllReady.cons rfl (fun K hK => ?_) ?_
     ·-- 4
      refine Kd.S_append_step (Kd.slice 3 (Kd.int .i64)) (w0 := S.w) (W := W2) S.w.heap.size (by rfl) (.tmp 12) (.tmp 15) 58 24 (.slice none 0 0) 24 rfl Try.underlying58 info24 rfl (by decide) (by omega) vo o wl [.slice A2 wl.length c2] (fun k => S.ok av k ∧ some k ≠ (Value.slice Aw wl.length cw).ownBlock) (fun k => some k = (Value.slice A2 wl.length c2).ownBlock) rfl rfl ?_ (few_new hS HI1.out HR2.out) (fun k hk => ⟨HI2.out.far hS hk, HI2.out.vw_lt hk⟩) (few_old HI1.out HB2.out HR2.out) HI2.out.below HI2.out.below.size HOL.out ?_
      ·exact Kd.M_row (Kd.R_tight rfl (Kd.R_lower HR2.out HI1.out.below.size))
      intro v1 w1 hs1 hb1_ hg1 hat1
      obtain ⟨A1, n1, c1, rfl⟩ : ∃ A n c, v1 = .slice A n c := by obtain ⟨A, c, e⟩ := Kd.S_slice hs1; exact ⟨A, _, c, e⟩
      have HP := am (HI2.out.put_out hS hs1 hb1_ hg1)
      have hco4 : w1.cell? ⟨S.go, 0, none⟩ = some vo := (blk_cell (HI2.out.go_kept hg1) 0).trans rfl
      have hfo4 := blk_frozen (HI2.out.go_kept hg1) 0
      clear hs1 hb1_ hg1 hat1
      show K (Act.put _ (some 16) _) w1
      refine hK _ _ ?_
      clear hK K
      refine wpAny_ready (rs := [5]) (by kernel_rfl) (by simp) ?_
      refine AllReady.cons rfl (fun K hK => ?_) ?_
      ·-- 5
       go_simp
       refine hK _ _ ?_
       clear hK K
       refine wpAny_done (by kernel_rfl) ?_ _
       go_wp2
       exact bodyPost_ret (v := .tuple #[]) (by simp [results, Try.results147, go_sem]) rfl ⟨rfl, _, HP.out.1, (FewKeep.of_below HI.out.avlt HB1.out).trans ((FewKeep.of_below HI1.out.avlt HB2.out).trans HP.out.2)⟩
      exact AllReady.nil
     exact AllReady.nil
    exact AllReady.nil
   exact AllReady.nil
  exact AllReady.nil
 exact AllReady.nil
set_option maxHeartbeats 8000000 in
set_option maxRecDepth 100000 in
theorem few_step {S : FewA} (hS : S.Ok) (F d : Nat) (t s : Int) (l wl : List Int) (out : List (List Int)) (hal : impl_Poset_all.f S.p = some t) (hst : ¬ s = t) (hnx : impl_Poset_next.f F S.p s = some l) (hl : l.length ≤ 1000) (hrow : few_row (few_put F S.p d) s wl l = some out)
 (ih : ∀ (s : Int) (wl : List Int) (out : List (List Int)), few_put F S.p d s wl = some out → ∀ {av : Nat → Prop} {vo vw : Value} {o : List (List Int)} {W : World}, FewI S av vo vw o wl W → (o.length + out.length) * 24 ≤ 140737488355328 →
  Calls Try.prog 147 #[.int .i64 s, .pointer (some ⟨S.gp, 0, none⟩), .pointer (some ⟨S.go, 0, none⟩), .pointer (some ⟨S.gw, 0, none⟩), .pointer (some ⟨S.gf, 0, none⟩)] W fun e W' => e = .returned (.tuple #[]) ∧ ∃ vo' vw', FewI S av vo' vw' (o ++ out) wl W' ∧ FewKeep av W W')
 {av : Nat → Prop} {vo vw : Value} {o : List (List Int)} {W : World} (h : FewI S av vo vw o wl W) (hol : (o.length + out.length) * 24 ≤ 140737488355328) :
 Calls Try.prog 147 #[.int .i64 s, .pointer (some ⟨S.gp, 0, none⟩), .pointer (some ⟨S.go, 0, none⟩), .pointer (some ⟨S.gw, 0, none⟩), .pointer (some ⟨S.gf, 0, none⟩)] W fun e W' => e = .returned (.tuple #[]) ∧ ∃ vo' vw', FewI S av vo' vw' (o ++ out) wl W' ∧ FewKeep av W W' := by
 have hu28 := Try.underlying26
 have hcp : W.cell? ⟨S.gp, 0, none⟩ = some (.slice S.A0 S.p.length S.c0) := (blk_cell h.cp 0).trans rfl
 have hst' : (s == t) = false := beq_eq_false_iff_ne.mpr hst
 have HALL := am (impl_Poset_all.calls S.A0 S.c0 S.p t W (Kd.C_below hS.C h.below) hS.le hal)
 have HI := am h
 have HOL := am hol
 have HNX := am hnx
 have HROW := am hrow
 have HL := am hl
 have IH := am @ih
 clear h hol hal hnx hrow hl ih hst
 go_enter Try.func147, Try.ntmps147
 go_wp2_with (first
  | (go_at_call 114; (with_reducible refine HALL.out.mono ?_); rintro e W1 ⟨rfl, hb1⟩; have HI1 := am (HI.out.step hb1); have hcp1 : W1.cell? ⟨S.gp, 0, none⟩ = some (.slice S.A0 S.p.length S.c0) := (blk_cell HI1.out.cp 0).trans rfl; have HB1 := am hb1; clear hb1)
  | (go_at_call 115; (with_reducible refine (impl_Poset_next.calls F S.A0 S.c0 S.p s l _ (Kd.C_below hS.C HI1.out.below) hS.le HNX.out).mono ?_); rintro e W2 ⟨vl, rfl, hr2, hb2⟩; obtain ⟨Al, cl, rfl⟩ := Kd.R_slice hr2; have HI2 := am (HI1.out.with_row hb2 hr2); have HB2 := am hb2; have HR2 := am hr2; clear hb2 hr2))
 go_loopg [21] (l.length + 1) (fun kq v21 w' => ∃ (i : Nat) (vo' vw' : Value) (o' rest : List (List Int)), v21 = .int .i64 (i : Int) ∧ Aside0 (kq + i = l.length + 1 ∧ i ≤ l.length) ∧ Aside0 (few_row (few_put F S.p d) s wl (l.drop i) = some rest) ∧ Aside0 (o' ++ rest = o ++ out) ∧ Aside0 (FewI S (fewAv av (.slice Al l.length cl)) vo' vw' o' wl w') ∧ Aside0 (FewKeep (fewAv av (.slice Al l.length cl)) W2 w'))
 case atStart => exact ⟨0, vo, vw, o, out, rfl, ⟨rfl, Nat.zero_le _⟩, HROW, ⟨rfl⟩, HI2, ⟨FewKeep.refl _ _⟩⟩
 case round =>
  obtain ⟨i, vo', vw', o', rest, rfl, HK, HRO, HEQ, HI3, HKP⟩ := hrel
  cases gk with
  | zero => exact absurd HK.out (by omega)
  | succ k1 =>
   obtain ⟨Aw, cw, rfl⟩ := Kd.R_slice HI3.out.HW
   have hcw' : wr.cell? ⟨S.gw, 0, none⟩ = some (.slice Aw wl.length cw) := (blk_cell HI3.out.cw 0).trans rfl
   have hfw' := blk_frozen HI3.out.cw 0
   by_cases hi : i < l.length
   ·obtain ⟨e, hd⟩ : ∃ e, l.drop i = e :: l.drop (i + 1) := ⟨_, List.drop_eq_getElem_cons hi⟩
    obtain ⟨g, cap, ev, hgb, hgl, _⟩ := Kd.R_form HR2.out (by omega)
    injection ev with e1 e2 e3
    subst e1; subst e3
    clear e2
    have hcell : wr.cell? ⟨g, i, none⟩ = some (.int .i64 e) := by
     have := few_cell HR2.out HKP.out i hi
     rwa [(few_rd hd).2.1] at this
    have HRO' := HRO.out
    rw [hd] at HRO'
    unfold few_row at HRO'
    split at HRO'
    rotate_left
    ·cases HRO'
    rename_i hew
    obtain ⟨o1, hA, HRO'⟩ := Option.bind_eq_some_iff.1 HRO'
    obtain ⟨o2, hB, HRO'⟩ := Option.bind_eq_some_iff.1 HRO'
    rw [few_shl] at hA
    have HSZ : Aside0 ((o'.length + o1.length) * 24 ≤ 140737488355328) := ⟨by have h1 := congrArg List.length HEQ.out; have h2 := congrArg List.length (Option.some.inj HRO'); have h3 := HOL.out; simp only [List.length_append] at h1 h2; omega⟩
    have HA := am hA
    have HB := am hB
    have HRE := am (Option.some.inj HRO')
    have HEW := am hew.2
    have he0 : (0 : Int) ≤ e := hew.1
    clear hA hB HRO' hew HRO hd
    have c1 : (0 : Int) ≤ (i : Int) := by omega
    have c2 : (i : Int) < (l.length : Int) := by omega
    have c3 : decide ((i : Int) < (l.length : Int)) = true := decide_eq_true c2
    have c5 : decide (i < l.length) = true := decide_eq_true hi
    have c4 := eq_true hi
    clear hi
    go_wp2_with ((with_reducible refine gate_builtin (b := .append) (xs := #[.tmp 25, .tmp 27]) rfl ?_); at_builtin; refine Kd.R_append (Kd.int .i64) (w0 := S.w) S.w.heap.size rfl (.tmp 25) (.tmp 27) 24 3 (.int .i64 0) 8 rfl Try.underlying24 info3 rfl (by decide) (by omega) (.slice Aw wl.length cw) wl e [.int .i64 e] (S.ok (fewAv av (.slice (some ⟨g, 0, none⟩) l.length cl))) (fun _ => False) rfl rfl ?aP (fun _ hk => hk.elim) ?aF ?aO ?aB ?aS ?aL ?_; (case aP => exact rfl); (case aB => exact HI3.out.below); (case aF => exact fun k hk => HI3.out.far hS hk); (case aO => exact HI3.out.HW); (case aS => exact HI3.out.below.size); (case aL => have := HEW.out; omega); intro v1 w1 hr1 hb1 hg1 hat1; obtain ⟨A1, n1, k1_, rfl⟩ : ∃ A n c, v1 = .slice A n c := (by obtain ⟨A, c, e⟩ := Kd.R_slice hr1; exact ⟨A, _, c, e⟩); have HP := am (HI3.out.put_w hS hr1 hb1 hg1 hat1); have hcw1 : w1.cell? ⟨S.gw, 0, none⟩ = some (.slice Aw wl.length cw) := (blk_cell (HI3.out.gw_kept hg1) 0).trans rfl; have hfw1 := blk_frozen (HI3.out.gw_kept hg1) 0; clear hr1 hb1 hg1 hat1)
    obtain ⟨W4, hW4⟩ : ∃ x, x = w1.setCell ⟨S.gw, 0, none⟩ (.slice A1 n1 k1_) := ⟨_, rfl⟩
    rw [← hW4]
    have HP4 := HP.out
    rw [← hW4] at HP4
    have HP5 := am HP4
    clear HP4 HP hW4 hcw1 hfw1 hcell hcw' hfw'
    have hcf4 : W4.cell? ⟨S.gf, 0, none⟩ = some (.func (.func 147) #[] S.caps) := (blk_cell HP5.out.1.cf 0).trans rfl
    unfold FewA.caps at hcf4
    go_region_with (go_at_call 147; (with_reducible refine (IH.out _ _ _ HA.out (HP5.out.1.step (below_drew (Below.refl _ _))) HSZ.out).mono ?_); rintro e' W5 ⟨rfl, vo2, vw2, hI5, hk5⟩; obtain ⟨A5, c5, rfl⟩ := Kd.R_slice hI5.HW; have hcw5 : W5.cell? ⟨S.gw, 0, none⟩ = some (.slice A5 (wl ++ [e]).length c5) := (blk_cell hI5.cw 0).trans rfl; have hfw5 := blk_frozen hI5.cw 0; have hlc5 := (Kd.R_reads' hI5.HW).2.1; have HI5 := am hI5; have HK5 := am hk5; clear hI5 hk5)
    rw [List.length_append, List.length_singleton] at hcw5 hlc5
    have hw5 : wrap64 (wl.length : Int) = (wl.length : Int) := few_w64 _ (Nat.le_succ_of_le HEW.out)
    have hwi : wrap64 ((i : Int) + 1) = ((i + 1 : Nat) : Int) := few_w64 (i + 1) (by have := HL.out; omega)
    have c6 : (0 : Int) ≤ (wl.length : Int) := by omega
    have c7 : (wl.length : Int) ≤ (c5 : Int) := by omega
    have c8 : (wl.length ≤ c5) = True := eq_true (by omega)
    go_wp2_with (fail)
    have HW5 := am (HI5.out.put_w hS (w1 := W5) (v1 := .slice A5 wl.length c5) (wl' := wl) (by have := Kd.R_take HI5.out.HW (m := wl.length) (by simp); simpa using this) HI5.out.below (World.grownBy.refl _ _) (.inl (by first | rfl | (cases A5 <;> rfl))))
    go_roundg k1
    case measure => omega
    case rel => exact ⟨i + 1, vo2, .slice A5 wl.length c5, o' ++ o1, o2, by rw [hwi], ⟨by have := HK.out; omega⟩, HB, ⟨by rw [List.append_assoc, HRE.out]; exact HEQ.out⟩, ⟨HW5.out.1⟩, ⟨HKP.out.trans (HP5.out.2.trans (FewKeep.trans (W2 := W5) HK5.out HW5.out.2))⟩⟩
   ·have c3 : decide ((i : Int) < (l.length : Int)) = false := decide_eq_false (by omega)
    go_wp2_with (fail)
    have hil : i = l.length := by have := HK.out; omega
    have HRO' := HRO.out
    rw [hil, List.drop_length] at HRO'
    unfold few_row at HRO'
    have hre := Option.some.inj HRO'
    have hoo := HEQ.out
    rw [← hre, List.append_nil] at hoo
    exact bodyPost_end (v := .tuple #[]) (by simp [results, Try.results147, go_sem]) rfl ⟨rfl, vo', _, hoo ▸ HI3.out.forget, ((FewKeep.of_below HI.out.avlt HB1.out).trans (FewKeep.of_below HI1.out.avlt HB2.out)).trans HKP.out.forget⟩
theorem few_put_calls {S : FewA} (hS : S.Ok) (F : Nat) : ∀ (d : Nat) (s : Int) (wl : List Int) (out : List (List Int)), few_put F S.p d s wl = some out → ∀ (av : Nat → Prop) (vo vw : Value) (o : List (List Int)) (W : World), FewI S av vo vw o wl W → (o.length + out.length) * 24 ≤ 140737488355328 →
 Calls Try.prog 147 #[.int .i64 s, .pointer (some ⟨S.gp, 0, none⟩), .pointer (some ⟨S.go, 0, none⟩), .pointer (some ⟨S.gw, 0, none⟩), .pointer (some ⟨S.gf, 0, none⟩)] W fun e W' => e = .returned (.tuple #[]) ∧ ∃ vo' vw', FewI S av vo' vw' (o ++ out) wl W' ∧ FewKeep av W W'
 | 0, _, _, _, h => by cases h
 | d + 1, s, wl, out, h => by
  intro av vo vw o W hI hol
  unfold few_put at h
  obtain ⟨t, hal, h⟩ := Option.bind_eq_some_iff.1 h
  split at h
  ·rename_i hst
   subst hst
   split at h
   rotate_left
   ·cases h
   rename_i hlen
   obtain rfl := Option.some.inj h
   refine (few_all hS hI s hal hlen (by simpa using hol)).mono ?_
   rintro e W' ⟨rfl, vo', h1, h2⟩
   exact ⟨rfl, vo', _, h1, h2⟩
  ·rename_i hst
   obtain ⟨l, hnx, h⟩ := Option.bind_eq_some_iff.1 h
   split at h
   rotate_left
   ·cases h
   rename_i hl
   exact few_step hS F d t s l wl out hal hst hnx hl h (fun s wl out h av vo vw o W hI hs => few_put_calls hS F d s wl out h av vo vw o W hI hs) hI hol
def impl_few.f (k : Nat) (l0_0 : List Int) : Option (List (List Int) × Bool) :=
 (impl_IsPoset.f k l0_0).bind fun b => if b = true then ((impl_Poset_ways.f k l0_0).bind fun ways => if 0 < ways.length then (if rd ways 0 > 500 then some ([], false) else (few_put k l0_0 k 0 []).bind fun o => if o.length ≤ 1000 then some (o, true) else none) else none) else some ([], false)
theorem few_row_mono {g g' : Int → List Int → Option (List (List Int))} (h : ∀ s w, LeO (g s w) (g' s w)) (s : Int) (w : List Int) : ∀ l, LeO (few_row g s w l) (few_row g' s w l)
 | [] => LeO.refl _
 | e :: l => by
  unfold few_row
  exact LeO.ite (LeO.bind (h _ _) (fun _ => LeO.bind (few_row_mono h s w l) (fun _ => LeO.refl _))) (LeO.refl _)
theorem few_put_mono (p : List Int) (k : Nat) : ∀ d s w, LeO (few_put k p d s w) (few_put (k + 1) p (d + 1) s w)
 | 0, s, w => fun r h => by cases h
 | d + 1, s, w => by
  unfold few_put
  exact LeO.bind (LeO.refl _) (fun t => LeO.ite (LeO.refl _) (LeO.bind (impl_Poset_next.mono _ _ _) (fun l => LeO.ite (few_row_mono (fun s w => few_put_mono p k d s w) s w l) (LeO.refl _))))
theorem impl_few.mono : ∀ a0 k, LeO (impl_few.f k a0) (impl_few.f (k + 1) a0) := fun a0 k => by
 unfold impl_few.f
 exact LeO.bind (impl_IsPoset.mono _ _) (fun b => LeO.ite (LeO.bind (impl_Poset_ways.mono _ _) (fun ways => LeO.ite (LeO.ite (LeO.refl _) (LeO.bind (few_put_mono _ _ _ _ _) (fun _ => LeO.refl _))) (LeO.refl _))) (LeO.refl _))
set_option maxHeartbeats 8000000 in
set_option maxRecDepth 100000 in
theorem impl_few.calls (k : Nat) (A0_0 : Option Addr) (c0_0 : Nat) (l0_0 : List Int) (r1 : List (List Int)) (r2 : Bool) (w : World) (hr0_0 : Kd.C (Kd.int .i64) w A0_0 l0_0.length l0_0) (hc0_0 : l0_0.length ≤ c0_0) (h : impl_few.f k l0_0 = some (r1, r2)) :
 Calls Try.prog 118 #[.agg #[.slice A0_0 l0_0.length c0_0]] w fun e w' => ∃ v0_ : Value, e = .returned (.tuple #[v0_, .bool r2]) ∧ Kd.S (Kd.slice 3 (Kd.int .i64)) 24 w' w.heap.size (fun _ => True) v0_ r1 ∧ Below w.heap.size w w' := by
 have hu28 := Try.underlying26
 have hmf : ∀ (fn : Fn) (first cap : Array Value) (w : World), (Instr.makeFunc fn first cap).run Try.prog w = .ok (.func fn first cap) w := fun _ _ _ _ => rfl
 unfold impl_few.f at h
 obtain ⟨b, hb, h⟩ := Option.bind_eq_some_iff.1 h
 have HR := am hr0_0
 have HC := am hc0_0
 have HBP := am hb
 clear hr0_0 hc0_0 hb
 cases b
 ·obtain ⟨rfl, rfl⟩ : [] = r1 ∧ false = r2 := by simpa using h
  clear h
  go_enter Try.func118, Try.ntmps118
  go_wp2_with (fail)
  refine (impl_IsPoset.calls k A0_0 c0_0 l0_0 false _ (by (with_reducible repeat (first | refine Kd.C_alloc ?_ _ | refine Kd.C_drewN ?_ _ | refine Kd.C_drew ?_)); exact HR.out) HC.out HBP.out).mono ?_
  rintro e w1 ⟨rfl, hb1⟩
  have HB1 := am hb1
  clear hb1
  go_wp2_with (fail)
  refine bodyPost_ret (results_tmp2 rfl _ _ _) rfl ?_
  exact ⟨_, rfl, ⟨fun _ => 0, Kd.R_nil _ _ _ _ _⟩, (below_alloc (Below.refl _ _) _).trans (HB1.out.mono (by simp))⟩
 ·have h := (if_pos rfl).symm.trans h
  obtain ⟨ways, hw, h⟩ := Option.bind_eq_some_iff.1 h
  split at h
  rotate_left
  ·cases h
  rename_i hlw
  have HW := am hw
  have HLW := am hlw
  clear hw hlw
  split at h
  ·rename_i hgt
   obtain ⟨rfl, rfl⟩ : [] = r1 ∧ false = r2 := by simpa using h
   clear h
   have hgt' : decide (500 < rd ways 0) = true := decide_eq_true hgt
   go_enter Try.func118, Try.ntmps118
   go_wp2_with (fail)
   refine (impl_IsPoset.calls k A0_0 c0_0 l0_0 true _ (by (with_reducible repeat (first | refine Kd.C_alloc ?_ _ | refine Kd.C_drewN ?_ _ | refine Kd.C_drew ?_)); exact HR.out) HC.out HBP.out).mono ?_
   rintro e w1 ⟨rfl, hb1⟩
   have hP1 := blk_below (blk_new w (.cells #[.slice A0_0 l0_0.length c0_0] 26)) hb1
   have hp1 : w1.cell? ⟨w.heap.size, 0, none⟩ = some (.slice A0_0 l0_0.length c0_0) := (blk_cell hP1 0).trans rfl
   have HP1 := am hP1
   have HB1 := am ((below_alloc (Below.refl w.heap.size w) _).trans (hb1.mono (by simp)))
   clear hb1 hP1
   go_wp2_with (fail)
   refine (impl_Poset_ways.calls k A0_0 c0_0 l0_0 ways _ (Kd.C_below HR.out HB1.out) HC.out HW.out).mono ?_
   rintro e w2 ⟨vw, rfl, hrw, hb2⟩
   obtain ⟨gq, cq, rfl, _, _, _⟩ := Kd.R_form hrw HLW.out
   have hq2 := (Kd.R_cell (0 : Int) hrw 0 (by omega) (by have := HLW.out; omega)).1
   have hq3 : w2.cell? ⟨gq, 0, none⟩ = some (.int .i64 (rd ways 0)) := hq2
   have hP2 := am (blk_below HP1.out hb2)
   have HB2 := am (below_step HB1.out hb2)
   have hlw1 : (0 : Int) < (ways.length : Int) := by have := HLW.out; omega
   have hlw2 := HLW.out
   have hlw3 : decide (0 < ways.length) = true := decide_eq_true hlw2
   clear hb2 hrw hq2
   go_wp2_with (fail)
   refine bodyPost_ret (results_tmp2 rfl _ _ _) rfl ?_
   exact ⟨_, rfl, ⟨fun _ => 0, Kd.R_nil _ _ _ _ _⟩, HB2.out⟩
  ·rename_i hgt
   have hgt' : decide (500 < rd ways 0) = false := decide_eq_false hgt
   obtain ⟨o, hput, h⟩ := Option.bind_eq_some_iff.1 h
   split at h
   rotate_left
   ·cases h
   rename_i hol
   obtain ⟨rfl, rfl⟩ : o = r1 ∧ true = r2 := by simpa using h
   clear h
   have HPUT := am hput
   have HOL := am hol
   clear hput hol
   go_enter Try.func118, Try.ntmps118
   go_wp2_with (fail)
   refine (impl_IsPoset.calls k A0_0 c0_0 l0_0 true _ (by (with_reducible repeat (first | refine Kd.C_alloc ?_ _ | refine Kd.C_drewN ?_ _ | refine Kd.C_drew ?_)); exact HR.out) HC.out HBP.out).mono ?_
   rintro e w1 ⟨rfl, hb1⟩
   have hP1 := blk_below (blk_new w (.cells #[.slice A0_0 l0_0.length c0_0] 26)) hb1
   have hp1 : w1.cell? ⟨w.heap.size, 0, none⟩ = some (.slice A0_0 l0_0.length c0_0) := (blk_cell hP1 0).trans rfl
   have HP1 := am hP1
   have HB1 := am ((below_alloc (Below.refl w.heap.size w) _).trans (hb1.mono (by simp)))
   clear hb1 hP1
   go_wp2_with (fail)
   refine (impl_Poset_ways.calls k A0_0 c0_0 l0_0 ways _ (Kd.C_below HR.out HB1.out) HC.out HW.out).mono ?_
   rintro e w2 ⟨vw, rfl, hrw, hb2⟩
   obtain ⟨gq, cq, rfl, _, _, _⟩ := Kd.R_form hrw HLW.out
   have hq2 := (Kd.R_cell (0 : Int) hrw 0 (by omega) (by have := HLW.out; omega)).1
   have hq3 : w2.cell? ⟨gq, 0, none⟩ = some (.int .i64 (rd ways 0)) := hq2
   have hP2 := am (blk_below HP1.out hb2)
   have HB2 := am (below_step HB1.out hb2)
   have hlw1 : (0 : Int) < (ways.length : Int) := by have := HLW.out; omega
   have hlw2 := HLW.out
   have hlw3 : decide (0 < ways.length) = true := decide_eq_true hlw2
   clear hb2 hrw hq2
   obtain ⟨S, hS, rfl, hSw, e1, e2, e3, e4, hI⟩ := few_start HR.out HC.out HB2.out hP2.out
   have HS := am hS
   have hcaps : S.caps = #[.pointer (some ⟨w.heap.size, 0, none⟩), .pointer (some ⟨w2.heap.size + 1 + 1, 0, none⟩), .pointer (some ⟨w2.heap.size + 1 + 1 + 1, 0, none⟩), .pointer (some ⟨w2.heap.size + 1 + 1 + 1 + 1, 0, none⟩)] := by unfold FewA.caps; rw [e1, e2, e3, e4]
   have hcall := few_put_calls hS k k 0 [] o HPUT.out (fun _ => False) _ _ [] _ hI (by have := HOL.out; simp; omega)
   unfold fewWorld at hcall
   rw [hcaps, e1, e2, e3, e4] at hcall
   have HCALL := am hcall
   clear hcall hI hS
   go_wp2_with (fail)
   refine HCALL.out.mono ?_
   rintro e W5 ⟨rfl, vo', vw', h5, h6⟩
   obtain ⟨A5, n5, c5, rfl⟩ : ∃ A n c, vo' = .slice A n c := by obtain ⟨A, c, e⟩ := Kd.S_slice h5.HO; exact ⟨A, _, c, e⟩
   have hco5 : W5.cell? ⟨w2.heap.size + 1 + 1, 0, none⟩ = some (.slice A5 n5 c5) := by rw [← e2]; exact (blk_cell h5.co 0).trans rfl
   have H5 := am h5
   clear h5 h6 HCALL
   go_wp2_with (fail)
   refine bodyPost_ret (results_tmp2 rfl _ _ _) rfl ⟨_, rfl, ?_, ?_⟩
   ·have := H5.out.HO
    rw [hSw, List.nil_append] at this
    exact Kd.S_mono this (fun _ _ => trivial)
   ·have := H5.out.below
    rwa [hSw] at this
end Go.Proofs.Ytmbojobkiainlaa.F
end

section
namespace Go.Proofs.Ytmbojobkiainlaa.F
open Go.RowKit Go.Proofs.YtmbojobkiainlaaW.PrintWords Go.Proofs.YtmbojobkiainlaaW.PrintLast Go.Proofs.YtmbojobkiainlaaW.PrintMore
attribute [local go_sem] max2_int min2_int max_two min_two max_three min_three max_four min_four
set_option linter.unusedVariables false
set_option linter.unusedSimpArgs false
def impl_AllLinear.f (k : Nat) (l0_0 : List Int) : Option ((List (List Int)) × Bool) := (impl_few.f k l0_0).bind fun bt1023 => (some (bt1023.1, bt1023.2))
theorem impl_AllLinear.mono : ∀ a0 k, LeO (impl_AllLinear.f k a0) (impl_AllLinear.f (k + 1) a0) := by
 intro a0 k
 unfold impl_AllLinear.f
 repeat' first
  | (with_reducible exact impl_few.mono _ _)
  | (with_reducible exact LeO.refl _)
  | (with_reducible exact LeO.none _)
  | (with_reducible refine LeO.ite ?_ ?_)
  | (with_reducible refine LeO.bind ?_ (fun _ => ?_))
  | exact impl_few.mono _ _
  | exact LeO.none _
  | refine LeO.ite ?_ ?_
  | refine LeO.bind ?_ (fun _ => ?_)
set_option maxHeartbeats 8000000 in
set_option maxRecDepth 100000 in
theorem impl_AllLinear.calls (k : Nat) (A0_0 : Option Addr) (c0_0 : Nat) (l0_0 : List Int) (r1 : List (List Int)) (r2 : Bool) (w : World) (hr0_0 : Kd.C (Kd.int .i64) w A0_0 l0_0.length l0_0) (hc0_0 : l0_0.length ≤ c0_0) (h : impl_AllLinear.f k l0_0 = some (r1, r2)) :
 Calls Try.prog 56 #[.agg #[.slice A0_0 l0_0.length c0_0]] w fun e w' => ∃ v0_ : Value, e = .returned (.tuple #[v0_, .bool r2]) ∧ Kd.S (Kd.slice 3 (Kd.int .i64)) 24 w' w.heap.size (fun _ => True) v0_ r1 ∧ Below w.heap.size w w' := by
 have hu26 := Try.underlying26
 have HR0_0 := am hr0_0
 have HC0_0 := am hc0_0
 clear hr0_0 hc0_0
 have HB := am (Below.refl w.heap.size w)
 have H : ((impl_few.f k l0_0).bind fun bt1023 => (some (bt1023.1, bt1023.2))) = some (r1, r2) := h
 clear h
 replace H := Option.bind_eq_some_iff.mp H
 obtain ⟨⟨t1023, t1026⟩, A20, H⟩ := H
 replace H : (some (t1023, t1026)) = some (r1, r2) := H
 have A2 := am A20
 clear A20
 simp only [Option.some.injEq, Prod.mk.injEq] at H
 obtain ⟨rfl, rfl⟩ := H
 go_enter Try.func56, Try.ntmps56
 go_wp2_with (first | ((with_reducible refine gate_dst (N := 1) rfl ?_); refine qx (N := 1) (cs := #[.slice A0_0 l0_0.length c0_0]) (t := 26) ?_; intro gb1022 hg w3 hbox hb; have n0_ := am (below_step qB hb); have BK1022 := am (hbox); have GW1022 := am (qg w hg); have GE1022 := am (qg w hg); clear HB; have HB := n0_; clear n0_; clear hb hbox hg; have hcz4_0 := qz w3 BK1022.out; have hfz4_0 := blk_frozen BK1022.out 0) | ((with_reducible refine gate_callee (f := 118) rfl ?_); refine gL (some 5) Try.func118 #[.agg #[.slice A0_0 l0_0.length c0_0]] ?_; (with_reducible refine (impl_few.calls k _ _ l0_0 t1023 t1026 _ ?side1 ?side2 A2.out).mono ?_); (case side1 => exact qC (Kd.C_below HR0_0.out HB.out)); (case side2 => exact HC0_0.out); rintro e w5 ⟨v1024, rfl, ho0, hb⟩; refine ⟨_, rfl, ?_⟩; have HO1025 := am (Kd.S_lower ho0 (below_size qB)); replace BK1022 := am (blk_below (g := gb1022) (o := .cells #[.slice A0_0 l0_0.length c0_0] 26 (0, 0)) (qb BK1022.out) hb); replace HB := am (below_step qB hb); (try clear hb); (try clear hb2); (try clear hk); (try clear hi); (try clear ho0)))
 go_ret2
 exact ⟨_, qr, qS HO1025.out, qB⟩
end Go.Proofs.Ytmbojobkiainlaa.F
end

section
namespace Go.Proofs.Ytmbojobkiainlaa.Q
open Go.RowKit Go.Proofs.YtmbojobkiainlaaW.PrintWords Go.Proofs.Ytmbojobkiainlaa.F
set_option linter.unusedVariables false
def allW (p : List Int) : Nat → Nat → List (List Nat)
 | 0, _ => [[]]
 | d + 1, s => (nextN p s).flatMap fun e => (allW p d (s ||| 2 ^ e)).map (e :: ·)
theorem pick_range (p : List Int) (s : Nat) (g : Nat → Nat → List Nat) : ∀ l : List Nat,
 (List.range (sumL (l.map fun e => ways p (s ||| 2 ^ e)))).map (fun r => (pick p s l r).1 :: g (s ||| 2 ^ (pick p s l r).1) (pick p s l r).2) = l.flatMap fun e => (List.range (ways p (s ||| 2 ^ e))).map fun r => e :: g (s ||| 2 ^ e) r := by
 intro l
 induction l with
 | nil => rfl
 | cons e l ih =>
  simp only [List.map_cons, sumL, List.flatMap_cons]
  rw [List.range_add, List.map_append, List.map_map, ← ih]
  congr 1
  ·refine List.map_congr_left fun r hr => ?_
   have hr := List.mem_range.1 hr
   simp only [pick, if_pos hr]
  ·refine List.map_congr_left fun r hr => ?_
   simp only [Function.comp, pick]
   rw [if_neg (by omega), Nat.add_sub_cancel_left]
theorem allW_eq {p : List Int} (hp : PO p) : ∀ (d s : Nat), s < 2 ^ p.length → pcard p.length s + d = p.length → allW p d s = (List.range (ways p s)).map (linW p d s) := by
 intro d
 induction d with
 | zero =>
  intro s hs hc
  rw [all_of_pcard hs (by omega), ways_all]
  rfl
 | succ d ih =>
  intro s hs hc
  have hall : s ≠ allN p := by
   intro e
   rw [e, pcard_all] at hc; omega
  rw [ways_step hs hall]
  have h := pick_range p s (linW p d) (nextN p s)
  refine Eq.trans ?_ h.symm
  unfold allW
  rw [List.flatMap_def, List.flatMap_def]
  congr 1
  refine List.map_congr_left fun e he => ?_
  obtain ⟨_, m1, m2, _⟩ := mem_nextN.1 he
  rw [ih _ (or_lt hs (pow_lt_pow m1)) (by rw [pcard_add m1 m2]; omega), List.map_map]
  rfl
theorem allW_len {p : List Int} : ∀ (d s : Nat), ∀ w ∈ allW p d s, w.length = d := by
 intro d
 induction d with
 | zero => intro s w hw; unfold allW at hw; rw [List.mem_singleton.1 hw]; rfl
 | succ d ih =>
  intro s w hw
  unfold allW at hw
  obtain ⟨e, _, hw⟩ := List.mem_flatMap.1 hw
  obtain ⟨v, hv, rfl⟩ := List.mem_map.1 hw
  rw [List.length_cons, ih _ _ hv]
theorem few_row_ev {g : Nat → Int → List Int → Option (List (List Int))} {p : List Int} {d s : Nat} {w : List Int} (hw : w.length ≤ 1000) (hs : s < 2 ^ 61) : ∀ l : List Nat, (∀ e ∈ l, e < 61 ∧ Ev (fun k => g k ((s ||| 2 ^ e : Nat) : Int) (w ++ [(e : Int)])) ((allW p d (s ||| 2 ^ e)).map fun v => (w ++ [(e : Int)]) ++ ints v)) →
 Ev (fun k => few_row (g k) (s : Int) w (ints l)) ((l.flatMap fun e => (allW p d (s ||| 2 ^ e)).map (e :: ·)).map fun v => w ++ ints v) := by
 intro l
 induction l with
 | nil => intro _; exact Ev.ret rfl
 | cons e l ih =>
  intro h
  obtain ⟨he, hg⟩ := h e List.mem_cons_self
  have h2 := ih (fun x hx => h x (List.mem_cons_of_mem _ hx))
  have e1 : ints (e :: l) = (e : Int) :: ints l := rfl
  rw [e1]
  simp only [few_row]
  refine Ev.yes ⟨by omega, hw⟩ ?_
  rw [shlN (by omega), bits_orN (Nat.lt_trans hs (by decide)) (Nat.pow_lt_pow_right (by decide) (by omega))]
  refine Ev.bind hg (Ev.bind h2 (Ev.ret ?_))
  rw [List.flatMap_cons, List.map_append, List.map_map]
  congr 1
  refine List.map_congr_left fun v _ => ?_
  show (w ++ [(e : Int)]) ++ ints v = w ++ ints (e :: v)
  rw [List.append_assoc]; rfl
theorem few_put_ev {p : List Int} (hp : PO p) : ∀ (d s : Nat) (w : List Int), s < 2 ^ p.length → idealB p s = true → pcard p.length s = w.length → w.length + d = p.length →
 Ev (fun k => few_put k p (k + (d + 1)) (s : Int) w) ((allW p d s).map fun v => w ++ ints v) := by
 have hn := hp.small
 intro d
 induction d with
 | zero =>
  intro s w hs hid hc hd
  have hall : s = allN p := all_of_pcard hs (by omega)
  simp only [few_put]
  refine Ev.call (all_eq (by omega)) (Ev.yes (show ((s : Nat) : Int) = ((allN p : Nat) : Int) from by rw [hall]) (Ev.yes (by omega) (Ev.ret ?_)))
  simp [allW, ints]
 | succ d ih =>
  intro s w hs hid hc hd
  have hall : s ≠ allN p := by
   intro e
   rw [e, pcard_all] at hc; omega
  simp only [few_put]
  refine Ev.call (all_eq (by omega)) (Ev.no (show ¬ (((s : Nat) : Int) = ((allN p : Nat) : Int)) from fun h => hall (by exact_mod_cast h)) (Ev.bind (next_ev hp hs) (Ev.yes ?_ ?_)))
  ·rw [ints_len]
   have : (nextN p s).length ≤ 10 := by unfold nextN; exact Nat.le_trans (List.length_filter_le _ _) (by simp)
   omega
  ·have := few_row_ev (g := fun k => few_put k p (k + (d + 1))) (p := p) (d := d) (w := w) (by omega) (lt_pow hs (by omega)) (nextN p s) (fun e he => by
    obtain ⟨_, m1, m2, _⟩ := mem_nextN.1 he
    refine ⟨by omega, ?_⟩
    exact ih (s ||| 2 ^ e) (w ++ [(e : Int)]) (or_lt hs (pow_lt_pow m1)) (idealB_add hp hid he) (by rw [pcard_add m1 m2, hc, List.length_append, List.length_singleton]) (by rw [List.length_append, List.length_singleton]; omega))
   exact this
theorem few_put_monoF (p : List Int) (k : Nat) : ∀ d s w, LeO (few_put k p d s w) (few_put (k + 1) p d s w)
 | 0, s, w => fun r h => by cases h
 | d + 1, s, w => by
  unfold few_put
  exact LeO.bind (LeO.refl _) (fun t => LeO.ite (LeO.refl _) (LeO.bind (impl_Poset_next.mono _ _ _) (fun l => LeO.ite (few_row_mono (fun s w => few_put_monoF p k d s w) s w l) (LeO.refl _))))
def rowsTo (p : List Int) (r : Nat) : List (List Int) := (List.range r).map fun r => ints (linW p p.length 0 r)
theorem rowsTo_len (p : List Int) (r : Nat) : (rowsTo p r).length = r := by simp [rowsTo]
theorem rowsTo_mem {p : List Int} {r : Nat} : ∀ q ∈ rowsTo p r, q.length = p.length := by
 intro q hq
 obtain ⟨x, _, rfl⟩ := List.mem_map.1 hq
 rw [ints_len, linW_len]
theorem few_all_ev {p : List Int} (hp : PO p) : Ev (fun k => few_put k p k 0 []) (rowsTo p (ways p 0)) := by
 have h := few_put_ev hp p.length 0 [] (Nat.two_pow_pos _) (idealB_zero p) (by rw [pcard_zero]; rfl) (by simp)
 rw [allW_eq hp p.length 0 (Nat.two_pow_pos _) (by rw [pcard_zero]; omega), List.map_map] at h
 obtain ⟨K, h⟩ := h
 refine ⟨K + (p.length + 1), fun k hk => ?_⟩
 have h1 := h (k - (p.length + 1)) (by omega)
 dsimp only at h1
 rw [show k - (p.length + 1) + (p.length + 1) = k by omega] at h1
 have h2 := at_rounds (g := fun F => few_put F p k 0 []) (fun F => few_put_monoF p F k 0 []) (show k - (p.length + 1) ≤ k by omega) h1
 refine Eq.trans h2 ?_
 rfl
theorem first_way {p : List Int} (hp : PO p) : rd (Wl p 0) 0 = ((ways p 0 : Nat) : Int) := by
 refine (rdN (Wl p 0) 0).trans ?_
 rw [Wl_get p 0 (Nat.two_pow_pos _)]; unfold wayAt; rw [if_pos (Nat.le_refl _), if_pos (idealB_zero p)]
theorem first_cnt {p : List Int} (hp : PO p) : rd (Cl p 0) 0 = ((ways p 0 : Nat) : Int) := (rdN (Cl p 0) 0).trans (Cl_at (Nat.two_pow_pos _))
theorem few_ev (p : List Int) : Ev (fun k => impl_few.f k p) (if isPo p = true ∧ ways p 0 ≤ 500 then (rowsTo p (ways p 0), true) else ([], false)) := by
 unfold impl_few.f
 refine Ev.bind (IsPoset_ev p) ?_
 cases hpo : isPo p with
 | false => exact Ev.no (by simp) (Ev.ret (by simp))
 | true =>
  have hP := (isPo_iff p).1 hpo
  have h2 : 0 < 2 ^ p.length := Nat.two_pow_pos _
  refine Ev.yes rfl (Ev.bind (ways_table hP) (Ev.yes (by rw [Wl_len]; omega) ?_))
  rw [first_way hP]
  by_cases hw : ways p 0 ≤ 500
  ·rw [if_pos ⟨rfl, hw⟩]
   exact Ev.no (by omega) (Ev.bind (few_all_ev hP) (Ev.yes (by rw [rowsTo_len]; omega) (Ev.now _)))
  ·rw [if_neg (fun h => hw h.2)]
   exact Ev.yes (by omega) (Ev.now _)
theorem liAll_run {p : List Int} (hp : PO p) (hw : ways p 0 ≤ 500) : ∀ r, r ≤ ways p 0 → Ev (fun k => spec_liAll.l0 k (Cl p 0) (rowsTo p r) (r : Int) p) (rowsTo p (ways p 0), true) := by
 have h2 : 0 < 2 ^ p.length := Nat.two_pow_pos _
 refine downTo _ ?_ ?_
 ·refine Ev.step (by intro k; simp only [spec_liAll.l0]; rfl) (Ev.yes (by rw [Cl_len]; omega) ?_)
  rw [first_cnt hp]
  exact Ev.no (by omega) (Ev.now _)
 ·intro r hr ih
  refine Ev.step (by intro k; simp only [spec_liAll.l0]; rfl) (Ev.yes (by rw [Cl_len]; omega) ?_)
  rw [first_cnt hp]
  refine Ev.yes (by omega) (Ev.bind (liWith_ev hp hr) (Ev.yes (by rw [rowsTo_len]; omega) ?_))
  rw [wid (by omega) (by omega)]
  have e : rowsTo p r ++ [ints (linW p p.length 0 r)] = rowsTo p (r + 1) := by unfold rowsTo; rw [List.range_succ, List.map_append]; rfl
  rw [e]
  exact ih
theorem liAll_ev {p : List Int} (hp : PO p) : Ev (fun k => spec_liAll.f k p) (if ways p 0 ≤ 500 then (rowsTo p (ways p 0), true) else ([], false)) := by
 unfold spec_liAll.f
 have h2 : 0 < 2 ^ p.length := Nat.two_pow_pos _
 refine Ev.bind (liCounts_ev hp) (Ev.yes (by rw [Cl_len]; omega) ?_)
 rw [first_cnt hp]
 by_cases hw : ways p 0 ≤ 500
 ·rw [if_pos hw]
  exact Ev.no (by omega) (liAll_run hp hw 0 (Nat.zero_le _))
 ·rw [if_neg hw]
  exact Ev.yes (by omega) (Ev.now _)
theorem mem_allW {p : List Int} (hp : PO p) : ∀ d s, s < 2 ^ p.length → pcard p.length s + d = p.length → ∀ w : List Nat, w ∈ allW p d s ↔ ordRun p s (ints w) = some (allN p) ∧ w.length = d := by
 have hn := hp.small
 intro d
 induction d with
 | zero =>
  intro s hs hc w
  unfold allW
  rw [List.mem_singleton]
  constructor
  ·rintro rfl; exact ⟨by show some s = _; rw [all_of_pcard hs (by omega)], rfl⟩
  ·rintro ⟨_, h⟩; exact List.length_eq_zero_iff.1 h
 | succ d ih =>
  intro s hs hc w
  unfold allW
  rw [List.mem_flatMap]
  constructor
  ·rintro ⟨e, he, hw⟩
   obtain ⟨v, hv, rfl⟩ := List.mem_map.1 hw
   obtain ⟨m0, m1, m2, m3⟩ := mem_nextN.1 he
   obtain ⟨h1, h2⟩ := (ih _ (or_lt hs (pow_lt_pow m1)) (by rw [pcard_add m1 m2]; omega) v).1 hv
   refine ⟨?_, by rw [List.length_cons, h2]⟩
   show ordRun p s ((e : Int) :: ints v) = _
   unfold ordRun
   rw [Int.toNat_natCast, if_pos ⟨⟨by omega, by omega⟩, m2, m3⟩]
   exact h1
  ·rintro ⟨h1, h2⟩
   cases w with
   | nil => cases h2
   | cons e v =>
    have h3 : ordRun p s ((e : Int) :: ints v) = some (allN p) := h1
    unfold ordRun at h3
    rw [Int.toNat_natCast] at h3
    split at h3
    rotate_left
    ·cases h3
    rename_i hc2
    obtain ⟨⟨c1, c2⟩, c3, c4⟩ := hc2
    have hen : e < p.length := by omega
    refine ⟨e, mem_nextN.2 ⟨by omega, hen, c3, c4⟩, List.mem_map.2 ⟨v, ?_, rfl⟩⟩
    exact (ih _ (or_lt hs (pow_lt_pow hen)) (by rw [pcard_add hen c3]; omega) v).2 ⟨h3, by rw [List.length_cons] at h2; omega⟩
theorem nextN_nodup (p : List Int) (s : Nat) : (nextN p s).Nodup := by
 unfold nextN
 exact List.Pairwise.filter _ List.nodup_range
theorem allW_nodup (p : List Int) : ∀ d s, (allW p d s).Nodup := by
 intro d
 induction d with
 | zero => intro s; unfold allW; exact List.pairwise_singleton _ _
 | succ d ih =>
  intro s
  unfold allW
  refine List.pairwise_flatMap.2 ⟨fun e _ => ?_, ?_⟩
  ·refine List.pairwise_map.2 (List.Pairwise.imp ?_ (ih _))
   intro a b hab h
   exact hab (List.cons.inj h).2
  ·refine List.Pairwise.imp ?_ (nextN_nodup p s)
   intro a b hab x hx y hy h
   obtain ⟨v, _, rfl⟩ := List.mem_map.1 hx
   obtain ⟨u, _, rfl⟩ := List.mem_map.1 hy
   exact hab (List.cons.inj h).1
theorem ints_inj {a b : List Nat} (h : ints a = ints b) : a = b := by
 unfold ints at h
 refine List.map_inj_right (fun x y e => ?_) |>.1 h
 exact Int.ofNat.inj e
theorem rows_allW {p : List Int} (hp : PO p) : rowsTo p (ways p 0) = (allW p p.length 0).map ints := by
 rw [allW_eq hp p.length 0 (Nat.two_pow_pos _) (by rw [pcard_zero]; omega), List.map_map]
 rfl
theorem rows_nodup {p : List Int} (hp : PO p) : (rowsTo p (ways p 0)).Nodup := by
 rw [rows_allW hp]
 refine List.pairwise_map.2 (List.Pairwise.imp ?_ (allW_nodup p _ _))
 intro a b hab h
 exact hab (ints_inj h)
theorem ord_nat {p w : List Int} (h : ordB p w = true) : w = ints (w.map Int.toNat) := by
 unfold ints
 rw [List.map_map]
 symm
 have : ∀ x ∈ w, (Int.ofNat ∘ Int.toNat) x = id x := fun x hx => by
  have := (ordB_range h x hx).1
  show Int.ofNat x.toNat = x
  exact Int.toNat_of_nonneg this
 rw [List.map_congr_left this, List.map_id]
theorem mem_rows {p : List Int} (hp : PO p) (w : List Int) : w ∈ rowsTo p (ways p 0) ↔ ordB p w = true := by
 rw [rows_allW hp]
 constructor
 ·intro h
  obtain ⟨v, hv, rfl⟩ := List.mem_map.1 h
  exact ordB_iff.2 ((mem_allW hp _ 0 (Nat.two_pow_pos _) (by rw [pcard_zero]; omega) v).1 hv).1
 ·intro h
  have e := ord_nat h
  refine List.mem_map.2 ⟨w.map Int.toNat, (mem_allW hp _ 0 (Nat.two_pow_pos _) (by rw [pcard_zero]; omega) _).2 ⟨?_, ?_⟩, e.symm⟩
  ·rw [← e]; exact ordB_iff.1 h
  ·rw [List.length_map]; exact ordB_len h
theorem id_run {p : List Int} (hp : PO p) : ∀ d i, i + d = p.length → ordRun p (2 ^ i - 1) (ints (List.range' i d)) = some (allN p)
 | 0, i, h => by
  have : i = p.length := by omega
  subst this
  rfl
 | d + 1, i, h => by
  have hi : i < p.length := by omega
  have e : ints (List.range' i (d + 1)) = (i : Int) :: ints (List.range' (i + 1) d) := by rw [List.range'_succ]; rfl
  rw [e]
  unfold ordRun
  rw [Int.toNat_natCast, if_pos ⟨⟨by omega, by omega⟩, by rw [Nat.testBit_two_pow_sub_one]; simp, subB_iff.2 (fun j hj => by
   have := lt_of_bit (hp.lt i hi) hj
   rw [Nat.testBit_two_pow_sub_one]; simpa using this)⟩]
  have e2 : (2 ^ i - 1) ||| 2 ^ i = 2 ^ (i + 1) - 1 := by
   apply Nat.eq_of_testBit_eq
   intro j
   rw [Nat.testBit_or, Nat.testBit_two_pow_sub_one, Nat.testBit_two_pow_sub_one, pow_bit]
   by_cases h1 : j < i
   ·simp [h1]; omega
   ·by_cases h2 : i = j
    ·simp [h2]
    ·simp [h1, h2]; omega
  rw [e2]
  exact id_run hp d (i + 1) (by omega)
theorem ways_pos {p : List Int} (hp : PO p) : 0 < ways p 0 := by
 have h : ordB p (ints (List.range' 0 p.length)) = true := ordB_iff.2 (id_run hp p.length 0 (by omega))
 have := List.length_pos_of_mem ((mem_rows hp _).2 h)
 rwa [rowsTo_len] at this
theorem nextN_sorted (p : List Int) (s : Nat) : (nextN p s).Pairwise (· < ·) := by
 unfold nextN
 exact List.Pairwise.filter _ List.pairwise_lt_range
theorem pick_sum {p : List Int} {s : Nat} : ∀ (l : List Nat) (r : Nat), l.Pairwise (· < ·) → r < sumL (l.map fun e => ways p (s ||| 2 ^ e)) →
 sumL ((l.filter fun e => decide (e < (pick p s l r).1)).map fun e => ways p (s ||| 2 ^ e)) + (pick p s l r).2 = r := by
 intro l
 induction l with
 | nil => intro r _ h; simp [sumL] at h
 | cons x l ih =>
  intro r hl h
  obtain ⟨h1, h2⟩ := List.pairwise_cons.1 hl
  simp only [List.map_cons, sumL] at h
  unfold pick
  by_cases hr : r < ways p (s ||| 2 ^ x)
  ·simp only [if_pos hr]
   have : (x :: l).filter (fun e => decide (e < x)) = [] := by
    rw [List.filter_eq_nil_iff]
    intro y hy
    rcases List.mem_cons.1 hy with rfl | hy
    ·simp
    ·have := h1 y hy; simp; omega
   rw [this]; simp [sumL]
  ·simp only [if_neg hr]
   have hr2 : r - ways p (s ||| 2 ^ x) < sumL (l.map fun e => ways p (s ||| 2 ^ e)) := by omega
   obtain ⟨g1, _⟩ := pick_ok l _ hr2
   have g2 := ih _ h2 hr2
   have hx := h1 _ g1
   rw [List.filter_cons_of_pos (by simpa using hx)]
   simp only [List.map_cons, sumL]
   omega
theorem rkF_sum (p : List Int) (s : Nat) : ∀ (l : List Nat) (acc : Nat), acc + sumL (l.map fun e => ways p (s ||| 2 ^ e)) ≤ 10000000000 → rkF p s (acc : Int) l = ((acc + sumL (l.map fun e => ways p (s ||| 2 ^ e)) : Nat) : Int)
 | [], acc, _ => by simp [rkF, sumL]
 | e :: l, acc, h => by
  simp only [List.map_cons, sumL] at h
  have hw : wrap64 ((acc : Int) + ((ways p (s ||| 2 ^ e) : Nat) : Int)) = ((acc + ways p (s ||| 2 ^ e) : Nat) : Int) := by rw [wid (by omega) (by omega)]; omega
  have ih := rkF_sum p s l (acc + ways p (s ||| 2 ^ e)) (by omega)
  show rkF p s (wrap64 ((acc : Int) + ((ways p (s ||| 2 ^ e) : Nat) : Int))) l = _
  rw [hw, ih]
  simp only [List.map_cons, sumL]
  congr 1
  omega
theorem sumL_filter_le (g : Nat → Nat) (P : Nat → Bool) : ∀ l : List Nat, sumL ((l.filter P).map g) ≤ sumL (l.map g)
 | [] => Nat.le_refl _
 | e :: l => by
  have := sumL_filter_le g P l
  rw [List.filter_cons]
  split
  ·simp only [List.map_cons, sumL]; omega
  ·simp only [List.map_cons, sumL]; omega
theorem rank_of_run {p : List Int} (hp : PO p) (w : List Int) (hwl : w.length = p.length) : ∀ (d s r acc : Nat), s < 2 ^ p.length → pcard p.length s + d = p.length → r < ways p s → acc + r ≤ 10000000000 → w.drop (p.length - d) = ints (linW p d s r) →
 Ev (fun k => spec_RankLinear.l0 k (Cl p 0) (acc : Int) (s : Int) w (w.length : Int) ((p.length - d : Nat) : Int) p) (((acc + r : Nat) : Int), true) := by
 have hn := hp.small
 intro d
 induction d with
 | zero =>
  intro s r acc hs hc hr ha hd
  have : s = allN p := all_of_pcard hs (by omega)
  subst this
  rw [ways_all] at hr
  have hr0 : r = 0 := by omega
  subst hr0
  exact Ev.step (by intro k; simp only [spec_RankLinear.l0]; rfl) (Ev.no (by omega) (Ev.now _))
 | succ d ih =>
  intro s r acc hs hc hr ha hd
  have hall : s ≠ allN p := by
   intro e
   rw [e, pcard_all] at hc; omega
  have hst := ways_step hs hall
  have hr' : r < sumL ((nextN p s).map fun e => ways p (s ||| 2 ^ e)) := by omega
  obtain ⟨h1, h2⟩ := pick_ok (p := p) (s := s) (nextN p s) r hr'
  have h3 := pick_sum (p := p) (s := s) (nextN p s) r (nextN_sorted p s) hr'
  obtain ⟨_, m1, m2, m3⟩ := mem_nextN.1 h1
  have hi : p.length - (d + 1) < w.length := by omega
  have e1 : p.length - (d + 1) + 1 = p.length - d := by omega
  rw [drop_getD w hi, e1] at hd
  have e2 : ints (linW p (d + 1) s r) = (((pick p s (nextN p s) r).1 : Nat) : Int) :: ints (linW p d (s ||| 2 ^ (pick p s (nextN p s) r).1) (pick p s (nextN p s) r).2) := rfl
  rw [e2] at hd
  obtain ⟨hd1, hd2⟩ := List.cons.inj hd
  refine Ev.step (by intro k; simp only [spec_RankLinear.l0]; rfl) (Ev.yes (by omega) (Ev.yes (by omega) (Ev.yes (by omega) ?_)))
  rw [rdN, hd1]
  refine rank_spec_in hp hs m1 w _ _ _ 0 (Nat.zero_le _) (acc : Int) ?_
  rw [← nextTo_eq hn (by omega), rkF_sum p s _ acc (by omega), wid1 hi (by omega), e1]
  have := ih (s ||| 2 ^ (pick p s (nextN p s) r).1) (pick p s (nextN p s) r).2 (acc + sumL (((nextN p s).filter fun e => decide (e < (pick p s (nextN p s) r).1)).map fun e => ways p (s ||| 2 ^ e))) (or_lt hs (pow_lt_pow m1)) (by rw [pcard_add m1 m2]; omega) h2 (by omega) hd2
  rw [Nat.add_assoc, h3] at this
  exact this
theorem rank_spec {p : List Int} (hp : PO p) {r : Nat} (hr : r < ways p 0) : Ev (fun k => spec_RankLinear.f k p (ints (linW p p.length 0 r))) (((r : Nat) : Int), true) := by
 unfold spec_RankLinear.f
 have hw := ways_le hp.small 0
 have ho : ordB p (ints (linW p p.length 0 r)) = true := (mem_rows hp _).1 (List.mem_map.2 ⟨r, List.mem_range.2 hr, rfl⟩)
 have hl := ordB_len ho
 refine Ev.bind (poGood_ev p) ?_
 rw [(isPo_iff p).2 hp]
 refine Ev.yes rfl (Ev.bind (liIs_ev hp _) ?_)
 rw [ho]
 show Ev (fun k => spec_RankLinear.j0 k _ false p) _
 refine Ev.step (by intro k; simp only [spec_RankLinear.j0]; rfl) (Ev.no (by simp) (Ev.bind (liCounts_ev hp) ?_))
 have := rank_of_run hp (ints (linW p p.length 0 r)) hl p.length 0 r 0 (Nat.two_pow_pos _) (by rw [pcard_zero]; omega) hr (by omega) (by rw [Nat.sub_self, List.drop_zero])
 rw [Nat.sub_self, Nat.zero_add] at this
 exact this
end Go.Proofs.Ytmbojobkiainlaa.Q
end

section
namespace Go.Proofs.Ytmbojobkiainlaa.F
open Go.RowKit Go.Proofs.YtmbojobkiainlaaW.PrintWords Go.Proofs.YtmbojobkiainlaaW.PrintLast Go.Proofs.YtmbojobkiainlaaW.PrintMore
set_option linter.unusedVariables false
set_option linter.unusedSimpArgs false
mutual
def spec_StairA.l0 : Nat → Int → List (List Int) → Int → Option ((List (List Int)))
 | 0, _, _, _ => none
 | k + 1, x0, x4, x5 => if x5 ≤ x0 then (spec_StairA.l1 k x0 x4 x5 0) else (some x4)
def spec_StairA.l1 : Nat → Int → List (List Int) → Int → Int → Option ((List (List Int)))
 | 0, _, _, _, _ => none
 | k + 1, x0, x4, x5, x6 => if (wrap64 (x6 + x5)) ≤ x0 then (if x4.length < 5864062014805 then (spec_StairA.l1 k x0 (x4 ++ [(([x6, wrap64 (x6 + x5)] : List Int))]) x5 (wrap64 (x6 + 1))) else (none)) else (spec_StairA.l0 k x0 x4 (wrap64 (x5 + 1)))
end
def spec_StairA.f (k : Nat) (a0 : Int) : Option ((List (List Int))) := spec_StairA.l0 k a0 ([] : List (List Int)) 1
theorem spec_StairA.mono_l : ∀ k, (∀ y0 y1 y2, LeO (spec_StairA.l0 k y0 y1 y2) (spec_StairA.l0 (k + 1) y0 y1 y2)) ∧ (∀ y0 y1 y2 y3, LeO (spec_StairA.l1 k y0 y1 y2 y3) (spec_StairA.l1 (k + 1) y0 y1 y2 y3))
 | 0 => ⟨fun _ _ _ r h => by simp [spec_StairA.l0] at h, fun _ _ _ _ r h => by simp [spec_StairA.l1] at h⟩
 | k + 1 => by
  obtain ⟨ih0, ih1⟩ := spec_StairA.mono_l k
  refine ⟨?_, ?_⟩
  ·intro y0 y1 y2
   unfold spec_StairA.l0
   repeat' first
   | (with_reducible exact LeO.refl _)
   | (with_reducible exact LeO.none _)
   | (with_reducible refine LeO.ite ?_ ?_)
   | (with_reducible refine LeO.bind ?_ (fun _ => ?_))
   | exact ih0 _ _ _
   | exact ih1 _ _ _ _
   | exact LeO.none _
   | refine LeO.ite ?_ ?_
   | refine LeO.bind ?_ (fun _ => ?_)
  ·intro y0 y1 y2 y3
   unfold spec_StairA.l1
   repeat' first
   | (with_reducible exact LeO.refl _)
   | (with_reducible exact LeO.none _)
   | (with_reducible refine LeO.ite ?_ ?_)
   | (with_reducible refine LeO.bind ?_ (fun _ => ?_))
   | exact ih0 _ _ _
   | exact ih1 _ _ _ _
   | exact LeO.none _
   | refine LeO.ite ?_ ?_
   | refine LeO.bind ?_ (fun _ => ?_)
theorem spec_StairA.mono : ∀ a0 k, LeO (spec_StairA.f k a0) (spec_StairA.f (k + 1) a0) := by
 intro a0 k
 obtain ⟨ih0, ih1⟩ := spec_StairA.mono_l k
 unfold spec_StairA.f
 repeat' first
  | (with_reducible exact LeO.refl _)
  | (with_reducible exact LeO.none _)
  | (with_reducible refine LeO.ite ?_ ?_)
  | (with_reducible refine LeO.bind ?_ (fun _ => ?_))
  | exact ih0 _ _ _
  | exact ih1 _ _ _ _
  | exact LeO.none _
  | refine LeO.ite ?_ ?_
  | refine LeO.bind ?_ (fun _ => ?_)
mutual
def spec_StairB.l0 : Nat → List (List Int) → List (List Int) → Int → Int → List Int → Option (List Int × Bool)
 | 0, _, _, _, _, _ => none
 | k + 1, x1, x40, x41, x42, x1315000 => if x42 < x41 then (if 0 ≤ x42 then (if x42 < (x40.length : Int) then (spec_StairB.l1 k x1 x42 (rd_L1 x40 x42) x40 x41 x42 x1 (x1.length : Int) 0 x1315000) else (none)) else (none)) else (some (x1315000, true))
def spec_StairB.l1 : Nat → List (List Int) → Int → List Int → List (List Int) → Int → Int → List (List Int) → Int → Int → List Int → Option (List Int × Bool)
 | 0, _, _, _, _, _, _, _, _, _, _ => none
 | k + 1, x1, x8, x9, x40, x41, x42, x47, x48, x49, x1315000 => if x49 < x48 then (if 0 ≤ x49 then (if x49 < (x47.length : Int) then (if x8 = x49 then (spec_StairB.l1 k x1 x8 x9 x40 x41 x42 x47 x48 (wrap64 (x49 + 1)) x1315000) else (if 0 < (x9.length : Int) then (if 0 < ((rd_L1 x47 x49).length : Int) then (if (rd x9 0) ≤ (rd (rd_L1 x47 x49) 0) then (if 1 < ((rd_L1 x47 x49).length : Int) then (if 1 < (x9.length : Int) then (if (rd (rd_L1 x47 x49) 1) ≤ (rd x9 1) then (if 0 ≤ x8 then (if x8 < (x1315000.length : Int) then (spec_StairB.l1 k x1 x8 x9 x40 x41 x42 x47 x48 (wrap64 (x49 + 1)) (x1315000.set (x8 : Int).toNat (Go.bits .or .i64 (rd x1315000 x8) (shl .i64 1 x49)))) else (none)) else (none)) else (spec_StairB.l1 k x1 x8 x9 x40 x41 x42 x47 x48 (wrap64 (x49 + 1)) x1315000)) else (none)) else (none)) else (spec_StairB.l1 k x1 x8 x9 x40 x41 x42 x47 x48 (wrap64 (x49 + 1)) x1315000)) else (none)) else (none))) else (none)) else (none)) else (spec_StairB.l0 k x1 x40 x41 (wrap64 (x42 + 1)) x1315000)
end
def spec_StairB.f (k : Nat) (a0 : Int) (l1 : List (List Int)) : Option (List Int × Bool) := if 0 ≤ (l1.length : Int) then (if ((l1.length : Int) : Int).toNat ≤ 35184372088832 then (spec_StairB.l0 k l1 l1 (l1.length : Int) 0 (List.replicate ((l1.length : Int) : Int).toNat 0)) else (none)) else (none)
theorem spec_StairB.mono_l : ∀ k, (∀ y0 y1 y2 y3 y4, LeO (spec_StairB.l0 k y0 y1 y2 y3 y4) (spec_StairB.l0 (k + 1) y0 y1 y2 y3 y4)) ∧ (∀ y0 y1 y2 y3 y4 y5 y6 y7 y8 y9, LeO (spec_StairB.l1 k y0 y1 y2 y3 y4 y5 y6 y7 y8 y9) (spec_StairB.l1 (k + 1) y0 y1 y2 y3 y4 y5 y6 y7 y8 y9))
 | 0 => ⟨fun _ _ _ _ _ r h => by simp [spec_StairB.l0] at h, fun _ _ _ _ _ _ _ _ _ _ r h => by simp [spec_StairB.l1] at h⟩
 | k + 1 => by
  obtain ⟨ih0, ih1⟩ := spec_StairB.mono_l k
  refine ⟨?_, ?_⟩
  ·intro y0 y1 y2 y3 y4
   unfold spec_StairB.l0
   repeat' first
   | (with_reducible exact LeO.refl _)
   | (with_reducible exact LeO.none _)
   | (with_reducible refine LeO.ite ?_ ?_)
   | (with_reducible refine LeO.bind ?_ (fun _ => ?_))
   | exact ih0 _ _ _ _ _
   | exact ih1 _ _ _ _ _ _ _ _ _ _
   | exact LeO.none _
   | refine LeO.ite ?_ ?_
   | refine LeO.bind ?_ (fun _ => ?_)
  ·intro y0 y1 y2 y3 y4 y5 y6 y7 y8 y9
   unfold spec_StairB.l1
   repeat' first
   | (with_reducible exact LeO.refl _)
   | (with_reducible exact LeO.none _)
   | (with_reducible refine LeO.ite ?_ ?_)
   | (with_reducible refine LeO.bind ?_ (fun _ => ?_))
   | exact ih0 _ _ _ _ _
   | exact ih1 _ _ _ _ _ _ _ _ _ _
   | exact LeO.none _
   | refine LeO.ite ?_ ?_
   | refine LeO.bind ?_ (fun _ => ?_)
theorem spec_StairB.mono : ∀ a0 a1 k, LeO (spec_StairB.f k a0 a1) (spec_StairB.f (k + 1) a0 a1) := by
 intro a0 a1 k
 obtain ⟨ih0, ih1⟩ := spec_StairB.mono_l k
 unfold spec_StairB.f
 repeat' first
  | (with_reducible exact LeO.refl _)
  | (with_reducible exact LeO.none _)
  | (with_reducible refine LeO.ite ?_ ?_)
  | (with_reducible refine LeO.bind ?_ (fun _ => ?_))
  | exact ih0 _ _ _ _ _
  | exact ih1 _ _ _ _ _ _ _ _ _ _
  | exact LeO.none _
  | refine LeO.ite ?_ ?_
  | refine LeO.bind ?_ (fun _ => ?_)
def spec_StairB.T18 : Bool × List (List Nat × List Nat) := (true, [([], []), ([], []), ([0, 1], [0, 1]), ([2], [2]), ([3], [3]), ([4, 3], [3, 4]), ([5, 3], [3, 5]), ([3], [3]), ([7, 3], [3, 7]), ([8, 3], [3, 8]), ([6, 9, 3], [3, 6, 9]), ([3, 10], [3, 10]), ([11, 3], [11]), ([12], [12]), ([13, 12], [12, 13]), ([14, 12], [12, 14]), ([12], [12]), ([16, 12], [12, 16]), ([17, 12], [12, 17]), ([15, 18, 12], [12, 15, 18]), ([12, 19], [12, 19])])
def spec_StairB.B18 : List Nat := [0, 0, 3, 7, 15, 31, 63, 15, 143, 399, 1023, 2047, 4095, 8191, 16383, 32767, 8191, 73727, 204799, 524287, 1048575]
theorem spec_StairB.tab18 : rtab .any (opsOf Try.f152 18) = spec_StairB.T18 := by kernel_rfl
theorem spec_StairB.bits18 : waitsOk spec_StairB.T18.2 spec_StairB.B18 = true := by kernel_rfl
def spec_StairB.T19 : Bool × List (List Nat × List Nat) := (true, [([], []), ([0], [0]), ([], []), ([1, 2], [1, 2]), ([3], [3]), ([], []), ([5], [5]), ([4, 6], [4, 6]), ([1, 2, 0, 1, 2, 3, 4, 5, 6, 7], [1, 2]), ([8, 7, 0, 1, 2, 3, 4, 5, 6, 7], [7, 8])])
def spec_StairB.B19 : List Nat := [0, 1, 0, 7, 15, 0, 32, 127, 255, 511]
theorem spec_StairB.tab19 : rtab .any (opsOf Try.f152 19) = spec_StairB.T19 := by kernel_rfl
theorem spec_StairB.bits19 : waitsOk spec_StairB.T19.2 spec_StairB.B19 = true := by kernel_rfl
def spec_Staircase.f (k : Nat) (a0 : Int) : Option (List Int × Bool) := (spec_l1In.f a0 1 4).bind fun b => if b = true then (spec_StairA.f k a0).bind fun st => spec_StairB.f k a0 st else some ([], false)
theorem spec_Staircase.mono : ∀ a0 k, LeO (spec_Staircase.f k a0) (spec_Staircase.f (k + 1) a0) := fun a0 k => LeO.bind (LeO.refl _) (fun b => LeO.ite (LeO.bind (spec_StairA.mono _ _) (fun st => spec_StairB.mono _ _ _)) (LeO.refl _))
set_option maxHeartbeats 8000000 in
set_option maxRecDepth 100000 in
theorem spec_Staircase.calls (k : Nat) (a0 : Int) (r1 : List Int) (r2 : Bool) (w : World) (h : spec_Staircase.f k a0 = some (r1, r2)) :
 Calls Try.prog 152 #[.int .i64 a0] w fun e w' => ∃ v0_ : Value, e = .returned (.tuple #[.agg #[v0_], .bool r2]) ∧ Kd.R (Kd.int .i64) 3 w' w.heap.size (fun _ => True) v0_ r1 ∧ Below w.heap.size w w' := by
 have hu26 := Try.underlying26
 unfold spec_Staircase.f at h
 obtain ⟨b, hb1, h⟩ := Option.bind_eq_some_iff.1 h
 have HIN := am hb1
 have HB := am (Below.refl w.heap.size w)
 clear hb1
 cases b with
 | false =>
  obtain ⟨rfl, rfl⟩ : [] = r1 ∧ false = r2 := by simpa using h
  clear h
  go_enter Try.func152, Try.ntmps152
  go_wp2_with (first | ((with_reducible refine gate_dst (N := 2) rfl ?_); refine qx (N := 2) (cs := #[.slice none 0 0]) (t := 26) ?_; intro gb1310 hg w5 hbox hb; have n0_ := am (below_step qB hb); have BK1310 := am (hbox); have GW1310 := am (qg w hg); have GE1310 := am (qg w hg); clear HB; have HB := n0_; clear n0_; clear hb hbox hg) | (go_at_call 75; (with_reducible refine (spec_l1In.calls a0 1 4 false _ HIN.out).mono ?_); rintro e w' ⟨rfl, ⟨nd, rfl⟩⟩; have hcz : (w5.drewN nd).cell? ⟨gb1310, 0, none⟩ = some (.slice none 0 0) := (blk_cell (blk_drewN BK1310.out nd) 0).trans rfl; have hfz := blk_frozen (blk_drewN BK1310.out nd) 0))
  refine bodyPost_ret (results_ct rfl _ _ gb1310 26 #[.slice none 0 0] (0, 0) _ rfl (by refine blk_put (cs := #[.slice none 0 0]) ?_ 0 _ rfl; refine qb ?_; exact BK1310.out) Try.underlying26 rfl (by kernel_rfl)) rfl ?_
  exact ⟨_, rfl, Kd.R_nil _ _ _ _ _, below_set qB GE1310.out⟩
 | true =>
  have h := (if_pos rfl).symm.trans h
  obtain ⟨st0, hst, h⟩ := Option.bind_eq_some_iff.1 h
  have H' := am (show spec_StairA.l0 k a0 ([] : List (List Int)) 1 = some st0 from hst)
  have HBRUN := am h
  clear hst h
  go_enter Try.func152, Try.ntmps152
  go_wp2_with (first | ((with_reducible refine gate_dst (N := 2) rfl ?_); refine qx (N := 2) (cs := #[.slice none 0 0]) (t := 26) ?_; intro gb1310 hg w5 hbox hb; have n0_ := am (below_step qB hb); have BK1310 := am (hbox); have GW1310 := am (qg w hg); have GE1310 := am (qg w hg); clear HB; have HB := n0_; clear n0_; clear hb hbox hg) | (go_at_call 75; (with_reducible refine (spec_l1In.calls a0 1 4 true _ HIN.out).mono ?_); rintro e w' ⟨rfl, ⟨nd, rfl⟩⟩; have BKA := am (blk_drewN BK1310.out nd); have HBA := am (pw_below_drewN HB.out nd); clear BK1310 HB; generalize w5.drewN nd = W1 at BKA HBA ⊢; have HB := am (Below.refl W1.heap.size W1)))
  go_loopg [4, 5] k (fun kq v4 v5 w' => ∃ (x4_1 : List (List Int)) (x5_1 : Int), v5 = .int .i64 x5_1 ∧ Aside0 (spec_StairA.l0 kq a0 x4_1 x5_1 = some st0) ∧ Aside0 (kq ≤ k) ∧ Aside0 (Kd.S (Kd.slice 3 (Kd.int .i64)) 24 w' W1.heap.size (fun _ => True) v4 x4_1) ∧ Aside0 (Below W1.heap.size W1 w'))
  case atStart => exact ⟨(([] : List (List Int))), (1), qe, H', ⟨Nat.le_refl _⟩, ⟨by first | exact Kd.S_nil _ _ _ _ _ | exact Kd.N_nil _ _ _ _ _ | exact Kd.V_nil _ _ _ _ _ | exact Kd.Q_nil _ _ _ _ _ | exact Kd.R_nil _ _ _ _ _⟩, ⟨qB⟩⟩
  case round =>
   clear H'
   try clear c1
   obtain ⟨x4_1, x5_1, rfl, HA, HK1, HO_4, HB⟩ := hrel
   cases gk with
   | zero => exact absurd HA.out (by simp [spec_StairA.l0])
   | succ k1 =>
    have H := HA.out
    clear HA
    simp only [spec_StairA.l0] at H
    by_cases c2 : x5_1 ≤ a0
    ·rw [if_pos c2] at H
     have c2b0 := decide_eq_true c2
     clear c2
     have H' := am H
     clear H
     go_wp2
     go_loopg [4, 6] k1 (fun kq v4 v6 w' => ∃ (x4_2 : List (List Int)) (x6_2 : Int), v6 = .int .i64 x6_2 ∧ Aside0 (spec_StairA.l1 kq a0 x4_2 x5_1 x6_2 = some st0) ∧ Aside0 (kq ≤ k1) ∧ Aside0 (Kd.S (Kd.slice 3 (Kd.int .i64)) 24 w' W1.heap.size (fun _ => True) v4 x4_2) ∧ Aside0 (Below W1.heap.size W1 w'))
     case atStart => exact ⟨(x4_1), (0), qe, H', ⟨Nat.le_refl _⟩, ⟨qS HO_4.out⟩, ⟨qB⟩⟩
     case round =>
      clear H'
      try clear c1
      try clear c2
      try clear c2b0
      try clear p2
      obtain ⟨x4_2, x6_2, rfl, HA, HK2, HO_4, HB⟩ := hrel
      cases gk with
      | zero => exact absurd HA.out (by simp [spec_StairA.l1])
      | succ k2 =>
       have H := HA.out
       clear HA
       simp only [spec_StairA.l1] at H
       by_cases c3 : (wrap64 (x6_2 + x5_1)) ≤ a0
       ·rw [if_pos c3] at H
        have c3b0 : decide ((wrap64 (x6_2 + x5_1)) ≤ a0) = true := decide_eq_true c3
        clear c3
        obtain ⟨y1304, hy1304⟩ : ∃ y_ : List Int, y_ = (([x6_2, wrap64 (x6_2 + x5_1)] : List Int)) := ⟨_, rfl⟩
        replace H : (if x4_2.length < 5864062014805 then (spec_StairA.l1 k2 a0 (x4_2 ++ [y1304]) x5_1 (wrap64 (x6_2 + 1))) else (none)) = some st0 := by first | (rw [hy1304]; with_reducible exact H) | (have H2_ := (Option.bind_some _ _).symm.trans H; rw [hy1304]; with_reducible exact H2_) | (have H2_ := (Option.bind_some _ _).symm.trans H; with_reducible exact H2_) | with_reducible exact H | (rw [hy1304]; exact H) | exact H
        have Ny1304 := am hy1304
        clear hy1304
        by_cases c4 : x4_2.length < 5864062014805
        rotate_left
        ·rw [if_neg c4] at H
         exact absurd H (by simp)
        rw [if_pos c4] at H
        have LMc4 := am c4
        clear c4
        obtain ⟨y1307, hy1307⟩ : ∃ y_ : List (List Int), y_ = (x4_2 ++ [y1304]) := ⟨_, rfl⟩
        replace H : (spec_StairA.l1 k2 a0 y1307 x5_1 (wrap64 (x6_2 + 1))) = some st0 := by first | (rw [hy1307]; with_reducible exact H) | (have H2_ := (Option.bind_some _ _).symm.trans H; rw [hy1307]; with_reducible exact H2_) | (have H2_ := (Option.bind_some _ _).symm.trans H; with_reducible exact H2_) | with_reducible exact H | (rw [hy1307]; exact H) | exact H
        have Ny1307 := am hy1307
        clear hy1307
        have H' := am H
        clear H
        go_wp2_with (first | ((with_reducible refine gate_dst (N := 33) rfl ?_); refine Kd.R_lit (Kd.int .i64) _ 3 ?hg (N := 33) ?hd (xs := ([x6_2, wrap64 (x6_2 + x5_1)] : List Int)) (inner := [.int .i64 x6_2, .int .i64 (wrap64 (x6_2 + x5_1))]) (ok := fun _ => True) (okp := fun _ => True) ?hr ?hp (fun _ hk => hk) trivial (Below.refl _ _) (Nat.le_refl _) (by simp) ?_; (case hd => rfl); (case hg => rfl); (case hr => first | (go_simp; done) | (go_simp; rfl)); (case hp => exact (Reps.one (show Kd.M (Kd.int .i64) _ _ _ x6_2 [.int .i64 x6_2] from rfl) (Reps.one (show Kd.M (Kd.int .i64) _ _ _ (wrap64 (x6_2 + x5_1)) [.int .i64 (wrap64 (x6_2 + x5_1))] from rfl) (Reps.none _ _)))); intro v1305 w5 ho6 hb hg_ hnew_; clear hg_ hnew_; (first | rw [← Ny1304.out] at ho6 | (simp only [Int.reduceToNat] at ho6; rw [← Ny1304.out] at ho6)); replace HO_4 := am (Kd.S_elder' (qS HO_4.out) (Kd.R_base ho6) hb); have HO1306 := am (Kd.R_lower ho6 (below_size qB)); replace HB := am (below_step qB hb); clear hb ho6; obtain ⟨Ao8, co8, eo8⟩ := Kd.R_slice HO1306.out; subst eo8) | ((with_reducible refine gate_builtin (b := .append) (xs := #[.tmp 28, .tmp 34]) rfl ?_); at_builtin; refine Kd.S_append (Kd.slice 3 (Kd.int .i64)) (w0 := W1) W1.heap.size rfl (.tmp 28) (.tmp 34) 58 24 (.slice none 0 0) 24 rfl Try.underlying58 info24 rfl (by decide) (by omega) u4 x4_2 y1304 [.slice Ao8 y1304.length co8] (fun _ => True) (fun k_ => some k_ = (.slice Ao8 y1304.length co8 : Value).ownBlock) rfl rfl ?aP (fun k_ hk_ => ((Kd.R_mono (ok' := fun k_ => ((fun _ => True)) k_ ∧ some k_ ≠ (u4 : Value).ownBlock) (Kd.R_apart' (HO1306.out) (Kd.S_typed HO_4.out) (by decide)) (fun k_ hk => ⟨trivial, hk.2⟩))).1 k_ hk_.symm) ?aF ?aO ?aB ?aS ?aL ?_; (case aP => exact Kd.M_row (Kd.R_mono (Kd.R_tight rfl (Kd.R_mono (ok' := fun k_ => ((fun _ => True)) k_ ∧ some k_ ≠ (u4 : Value).ownBlock) (Kd.R_apart' (HO1306.out) (Kd.S_typed HO_4.out) (by decide)) (fun k_ hk => ⟨trivial, hk.2⟩))) (fun _ h_ => h_))); (case aB => exact qB); (case aF => exact (fun _ _ => trivial)); (case aO => exact (qS (Kd.S_mono HO_4.out (fun k_ hk => ⟨trivial, fun e_ => hk.2 e_⟩)))); (case aS => exact (below_size qB)); (case aL => have := LMc4.out; omega); intro v1308 w7 ho hb hg hat; rw [← Ny1307.out] at ho; have n0_ := am (hb); have HO1309 := am (ho); clear HB HO_4 HO1306; have HB := n0_; clear n0_; clear ho hb hg hat))
        go_roundg k2
        case measure => have := HK1.out; have := HK2.out; omega
        case rel => exact ⟨(y1307), (wrap64 (x6_2 + 1)), qe, H', ⟨by have := HK1.out; have := HK2.out; omega⟩, ⟨qS HO1309.out⟩, ⟨qB⟩⟩
       ·rw [if_neg c3] at H
        have c3b0 : decide ((wrap64 (x6_2 + x5_1)) ≤ a0) = false := decide_eq_false c3
        clear c3
        have H' := am H
        clear H
        go_wp2
        go_roundg k2
        case measure => have := HK1.out; have := HK2.out; omega
        case rel => exact ⟨(x4_2), (wrap64 (x5_1 + 1)), qe, H', ⟨by have := HK1.out; have := HK2.out; omega⟩, ⟨qS HO_4.out⟩, ⟨qB⟩⟩
    ·rw [if_neg c2] at H
     have c2b0 := decide_eq_false c2
     clear c2
     obtain rfl := Option.some.inj H
     obtain ⟨As1, cs1, es1⟩ := Kd.S_slice HO_4.out
     subst es1
     have HR1 := am (Kd.S_reads' HO_4.out).2.2
     have HC1 := am (Kd.S_reads' HO_4.out).2.1
     have BK1310 := am (blk_below BKA.out HB.out)
     have HBW := am (HBA.out.trans (HB.out.mono HBA.out.size))
     obtain ⟨W2, rfl⟩ : ∃ x, x = wr := ⟨wr, rfl⟩
     clear HB HO_4 BKA HBA
     have HB := am (Below.refl W2.heap.size W2)
     have H : (if 0 ≤ (x4_1.length : Int) then (if ((x4_1.length : Int) : Int).toNat ≤ 35184372088832 then (spec_StairB.l0 k x4_1 x4_1 (x4_1.length : Int) 0 (List.replicate ((x4_1.length : Int) : Int).toNat 0)) else (none)) else (none)) = some (r1, r2) := HBRUN.out
     clear HBRUN
     by_cases c3 : 0 ≤ (x4_1.length : Int)
     ·rw [if_pos c3] at H
      have c3b0 := eq_true c3
      have c3b1 : decide (0 ≤ (x4_1.length : Int)) = true := decide_eq_true c3
      clear c3
      by_cases c4 : ((x4_1.length : Int) : Int).toNat ≤ 35184372088832
      rotate_left
      ·rw [if_neg c4] at H
       exact absurd H (by simp)
      rw [if_pos c4] at H
      have c4b0 := eq_true c4
      have c4b1 : decide (((x4_1.length : Int) : Int).toNat ≤ 35184372088832) = true := decide_eq_true c4
      clear c4
      obtain ⟨y1311, hy1311⟩ : ∃ y_ : List Int, y_ = (List.replicate ((x4_1.length : Int) : Int).toNat 0) := ⟨_, rfl⟩
      replace H : (spec_StairB.l0 k x4_1 x4_1 (x4_1.length : Int) 0 y1311) = some (r1, r2) := by first | (rw [hy1311]; with_reducible exact H) | (have H2_ := (Option.bind_some _ _).symm.trans H; rw [hy1311]; with_reducible exact H2_) | (have H2_ := (Option.bind_some _ _).symm.trans H; with_reducible exact H2_) | with_reducible exact H | (rw [hy1311]; exact H) | exact H
      have Ny1311 := am hy1311
      clear hy1311
      have H' := am H
      clear H
      go_wp2_with (first | ((with_reducible refine gate_dst (N := 38) rfl ?_); refine Kd.R_make (Kd.int .i64) _ 3 rfl (N := 38) rfl 24 _ _ rfl (x4_1.length : Int) rfl rfl Try.underlying24 (.int .i64 0) 8 info3 rfl (by decide) (by omega) 0 (ok := fun _ => True) (okp := fun _ => True) rfl (fun _ hk => hk) trivial (qd) (Nat.le_trans (Nat.mul_le_mul_right _ (qd : (x4_1.length : Int).toNat ≤ 35184372088832)) (by omega)) (Below.refl _ _) (Nat.le_refl _) ?_; intro v1312 w6 ho7 hb hg_ hnew_; clear hg_ hnew_; (first | rw [← Ny1311.out] at ho7 | (simp only [Int.reduceToNat] at ho7; rw [← Ny1311.out] at ho7)); have HO1313 := am (Kd.R_lower ho7 (below_size qB)); replace BK1310 := am (blk_below (g := gb1310) (o := .cells #[.slice none 0 0] 26 (0, 0)) (qb BK1310.out) hb); replace HB := am (below_step qB hb); clear hb ho7; obtain ⟨Ao8, co8, eo8⟩ := Kd.R_slice HO1313.out; subst eo8) | ((with_reducible refine gate_dst (N := 7) rfl ?_); refine qx (N := 7) (cs := #[.slice none 0 0]) (t := 26) ?_; intro gb1314 hg w9 hbox hb; replace HO1313 := am (Kd.R_below (qR HO1313.out) hb); have n1_ := am (blk_below (g := gb1310) (o := .cells #[.slice none 0 0] 26 (0, 0)) (qb BK1310.out) hb); have n2_ := am (below_step qB hb); have BK1314 := am (hbox); have GW1314 := am (qg W2 hg); have GE1314 := am (qg W2 hg); have NB1310_1314 := am ((by rw [hg]; exact Nat.ne_of_lt (blk_lt (g := gb1310) (o := .cells #[.slice none 0 0] 26 (0, 0)) (qb BK1310.out)) : gb1310 ≠ gb1314)); have NB1314_1310 := am ((by rw [hg]; exact Nat.ne_of_gt (blk_lt (g := gb1310) (o := .cells #[.slice none 0 0] 26 (0, 0)) (qb BK1310.out)) : gb1314 ≠ gb1310)); clear BK1310 HB; have BK1310 := n1_; have HB := n2_; clear n1_ n2_; clear hb hbox hg; have hnb10 := NB1314_1310.out; have hnc10 := NB1310_1314.out; have hcz11_0 := qz w9 BK1314.out; have hfz11_0 := blk_frozen BK1314.out 0))
      go_loopg [42] k (fun kq v42 w' => ∃ (x42_1 : Int) (x1315000_1 : List Int) (u1315000 : Value), v42 = .int .i64 x42_1 ∧ Aside0 (spec_StairB.l0 kq x4_1 x4_1 (x4_1.length : Int) x42_1 x1315000_1 = some (r1, r2)) ∧ Aside0 (kq ≤ k) ∧ Aside0 (Kd.R (Kd.int .i64) 3 w' W2.heap.size (fun _ => True) u1315000 x1315000_1) ∧ Aside0 (w'.heap[gb1310]? = some (.cells #[(.slice none 0 0)] 26 (0, 0))) ∧ Aside0 (w'.heap[gb1314]? = some (.cells #[u1315000] 26 (0, 0))) ∧ Aside0 (Below W2.heap.size W2 w'))
      case atStart => exact ⟨(0), (y1311), (.slice Ao8 y1311.length co8), qe, H', ⟨Nat.le_refl _⟩, ⟨qR (Kd.R_mono (Kd.R_far (p := ⟨gb1314, 0, none⟩) (Kd.R_types HO1313.out BK1314.out (by decide)) (fun _ hk => hk.2) (.slice Ao8 y1311.length co8)) (fun _ hk => trivial))⟩, ⟨by (with_reducible repeat (first | refine blk_drewN ?_ _ | refine blk_drew ?_ | refine blk_alloc ?_ _)); refine blk_far ?_ NB1310_1314.out _; refine qb ?_; exact BK1310.out⟩, ⟨by (with_reducible repeat (first | refine blk_drewN ?_ _ | refine blk_drew ?_ | refine blk_alloc ?_ _)); refine blk_put (cs := #[.slice none 0 0]) ?_ 0 _ rfl; refine qb ?_; exact BK1314.out⟩, ⟨qB⟩⟩
      case round =>
       clear H'
       try clear c1
       try clear p2
       try clear c3
       try clear c3b0
       try clear c3b1
       try clear c4
       try clear c4b0
       try clear c4b1
       try clear c10
       try clear hcz11_0
       try clear hfz11_0
       obtain ⟨x42_1, x1315000_1, u1315000, rfl, HA, HK1, HO_1315000, BK1310, BK1314, HB⟩ := hrel
       cases gk with
       | zero => exact absurd HA.out (by simp [spec_StairB.l0])
       | succ k1 =>
        have H := HA.out
        clear HA
        simp only [spec_StairB.l0] at H
        by_cases c12 : x42_1 < (x4_1.length : Int)
        ·rw [if_pos c12] at H
         have c12b0 := decide_eq_true c12
         clear c12
         by_cases c13 : 0 ≤ x42_1
         rotate_left
         ·rw [if_neg c13] at H
          exact absurd H (by simp)
         rw [if_pos c13] at H
         have c13b0 := decide_eq_true c13
         clear c13
         by_cases c14 : x42_1 < (x4_1.length : Int)
         rotate_left
         ·rw [if_neg c14] at H
          exact absurd H (by simp)
         rw [if_pos c14] at H
         have c14b0 := decide_eq_true c14
         clear c14
         have H' := am H
         clear H
         have p1315 : 0 ≤ (x42_1 : Int) := qd
         have q1315 : x42_1 < (x4_1.length : Int) := qd
         obtain ⟨ad1315, A1315_0, c1315_0, e1315, hx1315_0, hl1315_0, hi1315_0⟩ := at_L1 HR1.out x42_1 p1315 q1315
         cases e1315
         replace hx1315_0 := (HB.out.cell (World.block_lt_of_cell? W2 _ hx1315_0)).trans hx1315_0
         have HR1315_0 := am hi1315_0
         have HC1315_0 := am hl1315_0
         clear hi1315_0 hl1315_0
         replace p1315 := eq_true p1315
         replace q1315 := eq_true q1315
         go_wp2
         go_loopg [49] k1 (fun kq v49 w' => ∃ (x49_2 : Int) (x1315000_2 : List Int) (u1315000 : Value), v49 = .int .i64 x49_2 ∧ Aside0 (spec_StairB.l1 kq x4_1 x42_1 (rd_L1 x4_1 x42_1) x4_1 (x4_1.length : Int) x42_1 x4_1 (x4_1.length : Int) x49_2 x1315000_2 = some (r1, r2)) ∧ Aside0 (kq ≤ k1) ∧ Aside0 (Kd.R (Kd.int .i64) 3 w' W2.heap.size (fun _ => True) u1315000 x1315000_2) ∧ Aside0 (w'.heap[gb1310]? = some (.cells #[(.slice none 0 0)] 26 (0, 0))) ∧ Aside0 (w'.heap[gb1314]? = some (.cells #[u1315000] 26 (0, 0))) ∧ Aside0 (Below W2.heap.size W2 w'))
         case atStart => exact ⟨(0), (x1315000_1), (u1315000), qe, H', ⟨Nat.le_refl _⟩, ⟨qR HO_1315000.out⟩, ⟨qb BK1310.out⟩, ⟨qb BK1314.out⟩, ⟨qB⟩⟩
         case round =>
          clear H'
          try clear c1
          try clear p1
          try clear q1
          try clear hx1
          try clear p2
          try clear c3
          try clear c3b0
          try clear c3b1
          try clear c4
          try clear c4b0
          try clear c4b1
          try clear c10
          try clear c12
          try clear c12b0
          try clear c13
          try clear c13b0
          try clear p13
          try clear q13
          try clear hx13
          try clear c14
          try clear c14b0
          try clear hcz11_0
          try clear hfz11_0
          try clear hx1315_0
          try clear p1315
          try clear p2
          try clear q1315
          obtain ⟨x49_2, x1315000_2, u1315000, rfl, HA, HK2, HO_1315000, BK1310, BK1314, HB⟩ := hrel
          cases gk with
          | zero => exact absurd HA.out (by simp [spec_StairB.l1])
          | succ k2 =>
           have H := HA.out
           clear HA
           simp only [spec_StairB.l1] at H
           by_cases c15 : x49_2 < (x4_1.length : Int)
           ·rw [if_pos c15] at H
            have c15b0 := decide_eq_true c15
            clear c15
            by_cases c16 : 0 ≤ x49_2
            rotate_left
            ·rw [if_neg c16] at H
             exact absurd H (by simp)
            rw [if_pos c16] at H
            have c16b0 := decide_eq_true c16
            clear c16
            by_cases c17 : x49_2 < (x4_1.length : Int)
            rotate_left
            ·rw [if_neg c17] at H
             exact absurd H (by simp)
            rw [if_pos c17] at H
            have c17b0 := decide_eq_true c17
            clear c17
            by_cases c18 : x42_1 = x49_2
            ·rw [if_pos c18] at H
             have c18b0 : (x42_1 == x49_2) = true := beq_iff_eq.mpr c18
             have c18b1 : (x42_1 != x49_2) = false := bne_eq_false_iff_eq.mpr c18
             clear c18
             have H' := am H
             clear H
             have p1316 : 0 ≤ (x49_2 : Int) := qd
             have q1316 : x49_2 < (x4_1.length : Int) := qd
             obtain ⟨ad1316, A1316_0, c1316_0, e1316, hx1316_0, hl1316_0, hi1316_0⟩ := at_L1 HR1.out x49_2 p1316 q1316
             obtain rfl : ad1315 = ad1316 := (by injection e1316)
             replace hx1316_0 := (HB.out.cell (World.block_lt_of_cell? W2 _ hx1316_0)).trans hx1316_0
             have HR1316_0 := am hi1316_0
             have HC1316_0 := am hl1316_0
             clear hi1316_0 hl1316_0
             replace p1316 := eq_true p1316
             replace q1316 := eq_true q1316
             try go_wp2
             have n0_ := am (Kd.R_drew HO_1315000.out)
             have n1_ := am (blk_drew BK1310.out)
             have n2_ := am (blk_drew BK1314.out)
             have n3_ := am (below_drew1 HB.out)
             clear HO_1315000
             clear BK1310
             clear BK1314
             clear HB
             have HO_1315000 := n0_
             have BK1310 := n1_
             have BK1314 := n2_
             have HB := n3_
             clear n0_ n1_ n2_ n3_
             refine start_ (n := 21) (S := fun w' => True) (ds := []) #[false, false, false, false, false, false, false, false, false, false, false, false, false, false, false, false, false, false, false, false, false] (by kernel_rfl) rfl rfl trivial (fun hHeld => ?_); refine with_tabW spec_StairB.tab18 spec_StairB.bits18 (fun HT_ HW_ => ?_)
             generalize wr.drew = w19 at HO_1315000 BK1310 BK1314 HB hHeld ⊢
             refine pure_ (i := 0) (N := some 54) (v := ?_) (a' := ?_) #[true, false, false, false, false, false, false, false, false, false, false, false, false, false, false, false, false, false, false, false, false] rfl rfl (any_of HT_.out (by kernel_rfl)) (fun _ _ _ h => h) (Or.inl ⟨by rfl, ?_⟩) ?_ ?_
             rotate_left
             ·intro w'
              go_simp
              with_reducible rfl
             rotate_left
             ·exact qP
             refine pure_ (i := 1) (N := some 55) (v := ?_) (a' := ?_) #[true, true, false, false, false, false, false, false, false, false, false, false, false, false, false, false, false, false, false, false, false] rfl rfl (any_of HT_.out (by kernel_rfl)) (fun _ _ _ h => h) (Or.inl ⟨by rfl, ?_⟩) ?_ ?_
             rotate_left
             ·intro w'
              go_simp
              with_reducible rfl
             rotate_left
             ·exact qP
             refine pure_ (i := 2) (N := some 56) (v := ?_) (a' := ?_) #[true, true, true, false, false, false, false, false, false, false, false, false, false, false, false, false, false, false, false, false, false] rfl rfl (any_of HT_.out (by kernel_rfl)) (fun _ _ _ h => h) (Or.inl ⟨by rfl, ?_⟩) ?_ ?_
             rotate_left
             ·intro w'
              go_simp
              with_reducible rfl
             rotate_left
             ·exact qP
             refine pure_ (i := 3) (N := some 57) (v := ?_) (a' := ?_) #[true, true, true, true, false, false, false, false, false, false, false, false, false, false, false, false, false, false, false, false, false] rfl rfl (any_of HT_.out (by kernel_rfl)) (fun _ _ _ h => h) (Or.inl ⟨by rfl, ?_⟩) ?_ ?_
             rotate_left
             ·intro w'
              go_simp
              with_reducible rfl
             rotate_left
             ·exact qP
             refine pure_ (i := 4) (N := some 58) (v := undef) (a' := ?_) #[true, true, true, true, true, false, false, false, false, false, false, false, false, false, false, false, false, false, false, false, false] rfl rfl (any_of HT_.out (by kernel_rfl)) (fun _ _ _ h => h) (Or.inr ⟨by rfl, rfl⟩) ?_ ?_
             rotate_left
             ·exact qP
             refine pure_ (i := 5) (N := some 59) (v := undef) (a' := ?_) #[true, true, true, true, true, true, false, false, false, false, false, false, false, false, false, false, false, false, false, false, false] rfl rfl (any_of HT_.out (by kernel_rfl)) (fun _ _ _ h => h) (Or.inr ⟨by rfl, rfl⟩) ?_ ?_
             rotate_left
             ·exact qP
             refine pure_ (i := 6) (N := some 60) (v := undef) (a' := ?_) #[true, true, true, true, true, true, true, false, false, false, false, false, false, false, false, false, false, false, false, false, false] rfl rfl (any_of HT_.out (by kernel_rfl)) (fun _ _ _ h => h) (Or.inr ⟨by rfl, rfl⟩) ?_ ?_
             rotate_left
             ·exact qP
             refine pure_ (i := 7) (N := some 61) (v := undef) (a' := ?_) #[true, true, true, true, true, true, true, true, false, false, false, false, false, false, false, false, false, false, false, false, false] rfl rfl (any_of HT_.out (by kernel_rfl)) (fun _ _ _ h => h) (Or.inr ⟨by rfl, rfl⟩) ?_ ?_
             rotate_left
             ·exact qP
             refine pure_ (i := 8) (N := some 62) (v := undef) (a' := ?_) #[true, true, true, true, true, true, true, true, true, false, false, false, false, false, false, false, false, false, false, false, false] rfl rfl (any_of HT_.out (by kernel_rfl)) (fun _ _ _ h => h) (Or.inr ⟨by rfl, rfl⟩) ?_ ?_
             rotate_left
             ·exact qP
             refine pure_ (i := 9) (N := some 63) (v := undef) (a' := ?_) #[true, true, true, true, true, true, true, true, true, true, false, false, false, false, false, false, false, false, false, false, false] rfl rfl (any_of HT_.out (by kernel_rfl)) (fun _ _ _ h => h) (Or.inr ⟨by rfl, rfl⟩) ?_ ?_
             rotate_left
             ·exact qP
             refine pure_ (i := 10) (N := some 64) (v := undef) (a' := ?_) #[true, true, true, true, true, true, true, true, true, true, true, false, false, false, false, false, false, false, false, false, false] rfl rfl (any_of HT_.out (by kernel_rfl)) (fun _ _ _ h => h) (Or.inr ⟨by rfl, rfl⟩) ?_ ?_
             rotate_left
             ·exact qP
             refine pure_ (i := 11) (N := some 65) (v := ?_) (a' := ?_) #[true, true, true, true, true, true, true, true, true, true, true, true, false, false, false, false, false, false, false, false, false] rfl rfl (any_of HT_.out (by kernel_rfl)) (fun _ _ _ h => h) (Or.inl ⟨by rfl, ?_⟩) ?_ ?_
             rotate_left
             ·intro w'
              go_simp
              with_reducible rfl
             rotate_left
             ·exact qP
             refine pure_ (i := 12) (N := some 66) (v := ?_) (a' := ?_) #[true, true, true, true, true, true, true, true, true, true, true, true, true, false, false, false, false, false, false, false, false] rfl rfl (any_of HT_.out (by kernel_rfl)) (fun _ _ _ h => h) (Or.inl ⟨by rfl, ?_⟩) ?_ ?_
             rotate_left
             ·intro w'
              go_simp
              with_reducible rfl
             rotate_left
             ·exact qP
             refine pure_ (i := 13) (N := some 67) (v := undef) (a' := ?_) #[true, true, true, true, true, true, true, true, true, true, true, true, true, true, false, false, false, false, false, false, false] rfl rfl (any_of HT_.out (by kernel_rfl)) (fun _ _ _ h => h) (Or.inr ⟨by rfl, rfl⟩) ?_ ?_
             rotate_left
             ·exact qP
             refine pure_ (i := 14) (N := some 68) (v := undef) (a' := ?_) #[true, true, true, true, true, true, true, true, true, true, true, true, true, true, true, false, false, false, false, false, false] rfl rfl (any_of HT_.out (by kernel_rfl)) (fun _ _ _ h => h) (Or.inr ⟨by rfl, rfl⟩) ?_ ?_
             rotate_left
             ·exact qP
             refine pure_ (i := 15) (N := some 69) (v := undef) (a' := ?_) #[true, true, true, true, true, true, true, true, true, true, true, true, true, true, true, true, false, false, false, false, false] rfl rfl (any_of HT_.out (by kernel_rfl)) (fun _ _ _ h => h) (Or.inr ⟨by rfl, rfl⟩) ?_ ?_
             rotate_left
             ·exact qP
             refine pure_ (i := 16) (N := some 70) (v := undef) (a' := ?_) #[true, true, true, true, true, true, true, true, true, true, true, true, true, true, true, true, true, false, false, false, false] rfl rfl (any_of HT_.out (by kernel_rfl)) (fun _ _ _ h => h) (Or.inr ⟨by rfl, rfl⟩) ?_ ?_
             rotate_left
             ·exact qP
             refine pure_ (i := 17) (N := some 71) (v := undef) (a' := ?_) #[true, true, true, true, true, true, true, true, true, true, true, true, true, true, true, true, true, true, false, false, false] rfl rfl (any_of HT_.out (by kernel_rfl)) (fun _ _ _ h => h) (Or.inr ⟨by rfl, rfl⟩) ?_ ?_
             rotate_left
             ·exact qP
             refine pure_ (i := 18) (N := some 72) (v := undef) (a' := ?_) #[true, true, true, true, true, true, true, true, true, true, true, true, true, true, true, true, true, true, true, false, false] rfl rfl (any_of HT_.out (by kernel_rfl)) (fun _ _ _ h => h) (Or.inr ⟨by rfl, rfl⟩) ?_ ?_
             rotate_left
             ·exact qP
             refine pure_ (i := 19) (N := some 73) (v := undef) (a' := ?_) #[true, true, true, true, true, true, true, true, true, true, true, true, true, true, true, true, true, true, true, true, false] rfl rfl (any_of HT_.out (by kernel_rfl)) (fun _ _ _ h => h) (Or.inr ⟨by rfl, rfl⟩) ?_ ?_
             rotate_left
             ·exact qP
             refine pure_ (i := 20) (N := some 74) (v := ?_) (a' := ?_) #[true, true, true, true, true, true, true, true, true, true, true, true, true, true, true, true, true, true, true, true, true] rfl rfl (any_of HT_.out (by kernel_rfl)) (fun _ _ _ h => h) (Or.inl ⟨by rfl, ?_⟩) ?_ ?_
             rotate_left
             ·intro w'
              go_simp
              with_reducible rfl
             rotate_left
             ·exact qP
             refine done_ (done_of HT_.out (by kernel_rfl)) ?_
             try go_wp2
             go_roundg k2
             case measure => have := HK1.out; have := HK2.out; omega
             case rel => exact ⟨(wrap64 (x49_2 + 1)), (x1315000_2), (u1315000), qe, H', ⟨by have := HK1.out; have := HK2.out; omega⟩, ⟨qR HO_1315000.out⟩, ⟨qb BK1310.out⟩, ⟨qb BK1314.out⟩, ⟨qB⟩⟩
            ·rw [if_neg c18] at H
             have c18b0 : (x42_1 == x49_2) = false := beq_eq_false_iff_ne.mpr c18
             have c18b1 : (x42_1 != x49_2) = true := bne_iff_ne.mpr c18
             by_cases c20 : 0 < ((rd_L1 x4_1 x42_1).length : Int)
             rotate_left
             ·rw [if_neg c20] at H
              exact absurd H (by simp)
             rw [if_pos c20] at H
             have c20b0 := decide_eq_true c20
             have c20b1 : decide (0 < (rd_L1 x4_1 x42_1).length) = true := decide_eq_true (by omega)
             clear c20
             by_cases c21 : 0 < ((rd_L1 x4_1 x49_2).length : Int)
             rotate_left
             ·rw [if_neg c21] at H
              exact absurd H (by simp)
             rw [if_pos c21] at H
             have c21b0 := decide_eq_true c21
             have c21b1 : decide (0 < (rd_L1 x4_1 x49_2).length) = true := decide_eq_true (by omega)
             clear c21
             by_cases c22 : (rd (rd_L1 x4_1 x42_1) 0) ≤ (rd (rd_L1 x4_1 x49_2) 0)
             ·rw [if_pos c22] at H
              have c22b0 := decide_eq_true c22
              clear c22
              by_cases c23 : 1 < ((rd_L1 x4_1 x49_2).length : Int)
              rotate_left
              ·rw [if_neg c23] at H
               exact absurd H (by simp)
              rw [if_pos c23] at H
              have c23b0 := decide_eq_true c23
              have c23b1 : decide (1 < (rd_L1 x4_1 x49_2).length) = true := decide_eq_true (by omega)
              clear c23
              by_cases c24 : 1 < ((rd_L1 x4_1 x42_1).length : Int)
              rotate_left
              ·rw [if_neg c24] at H
               exact absurd H (by simp)
              rw [if_pos c24] at H
              have c24b0 := decide_eq_true c24
              have c24b1 : decide (1 < (rd_L1 x4_1 x42_1).length) = true := decide_eq_true (by omega)
              clear c24
              by_cases c25 : (rd (rd_L1 x4_1 x49_2) 1) ≤ (rd (rd_L1 x4_1 x42_1) 1)
              ·rw [if_pos c25] at H
               have c25b0 := decide_eq_true c25
               clear c25
               by_cases c26 : 0 ≤ x42_1
               rotate_left
               ·rw [if_neg c26] at H
                exact absurd H (by simp)
               rw [if_pos c26] at H
               have c26b0 := decide_eq_true c26
               clear c26
               by_cases c27 : x42_1 < (x1315000_2.length : Int)
               rotate_left
               ·rw [if_neg c27] at H
                exact absurd H (by simp)
               rw [if_pos c27] at H
               have c27b0 := decide_eq_true c27
               clear c27
               have c28b0 := eq_true (qd : 0 ≤ x49_2)
               obtain ⟨ji29, hji29⟩ : ∃ j_ : Int, (shl .i64 1 x49_2) = j_ := ⟨_, rfl⟩
               replace H : (spec_StairB.l1 k2 x4_1 x42_1 (rd_L1 x4_1 x42_1) x4_1 (x4_1.length : Int) x42_1 x4_1 (x4_1.length : Int) (wrap64 (x49_2 + 1)) (x1315000_2.set (x42_1 : Int).toNat (Go.bits .or .i64 (rd x1315000_2 x42_1) (ji29)))) = some (r1, r2) := by first | (rw [hji29] at H; exact H) | (simp only [hji29] at H ⊢; exact H)
               have hji29_ : (IntKind.i64.wrap (1 * 2 ^ min x49_2.toNat 64)) = ji29 := hji29
               have hji29z : x49_2 ≤ 64 → (IntKind.i64.wrap (1 * 2 ^ x49_2.toNat)) = ji29 := shl_small hji29
               have hji29u : (IntKind.i64.wrap (2 ^ min x49_2.toNat 64)) = ji29 := by have h_ := hji29_; rw [Int.one_mul] at h_; exact h_
               have hji29v : x49_2 ≤ 64 → (IntKind.i64.wrap (2 ^ x49_2.toNat)) = ji29 := fun hle_ => by have h_ := hji29z hle_; rw [Int.one_mul] at h_; exact h_
               have hji29y : (wrap64 (1 * 2 ^ min x49_2.toNat 64)) = ji29 := (i64_w _).symm.trans hji29_
               have hji29x : x49_2 ≤ 64 → (wrap64 (1 * 2 ^ x49_2.toNat)) = ji29 := fun h_ => (i64_w _).symm.trans (hji29z h_)
               obtain ⟨y1322, hy1322⟩ : ∃ y_ : List Int, y_ = (x1315000_2.set (x42_1 : Int).toNat (Go.bits .or .i64 (rd x1315000_2 x42_1) (ji29))) := ⟨_, rfl⟩
               replace H : (spec_StairB.l1 k2 x4_1 x42_1 (rd_L1 x4_1 x42_1) x4_1 (x4_1.length : Int) x42_1 x4_1 (x4_1.length : Int) (wrap64 (x49_2 + 1)) y1322) = some (r1, r2) := by first | (rw [hy1322]; with_reducible exact H) | (have H2_ := (Option.bind_some _ _).symm.trans H; rw [hy1322]; with_reducible exact H2_) | (have H2_ := (Option.bind_some _ _).symm.trans H; with_reducible exact H2_) | with_reducible exact H | (rw [hy1322]; exact H) | exact H
               have Ny1322 := am hy1322
               clear hy1322
               have H' := am H
               clear H
               have p1316 : 0 ≤ (x49_2 : Int) := qd
               have q1316 : x49_2 < (x4_1.length : Int) := qd
               obtain ⟨ad1316, A1316_0, c1316_0, e1316, hx1316_0, hl1316_0, hi1316_0⟩ := at_L1 HR1.out x49_2 p1316 q1316
               obtain rfl : ad1315 = ad1316 := (by injection e1316)
               replace hx1316_0 := (HB.out.cell (World.block_lt_of_cell? W2 _ hx1316_0)).trans hx1316_0
               have HR1316_0 := am hi1316_0
               have HC1316_0 := am hl1316_0
               clear hi1316_0 hl1316_0
               replace p1316 := eq_true p1316
               replace q1316 := eq_true q1316
               try go_wp2
               have n0_ := am (Kd.R_drew HO_1315000.out)
               have n1_ := am (blk_drew BK1310.out)
               have n2_ := am (blk_drew BK1314.out)
               have n3_ := am (below_drew1 HB.out)
               clear HO_1315000
               clear BK1310
               clear BK1314
               clear HB
               have HO_1315000 := n0_
               have BK1310 := n1_
               have BK1314 := n2_
               have HB := n3_
               clear n0_ n1_ n2_ n3_
               have p1317 : 0 ≤ (0 : Int) := (by omega)
               have q1317 : 0 < ((rd_L1 x4_1 x42_1).length : Int) := qd
               obtain ⟨ad1317, e1317, hx1317_0⟩ := Kd.at_int HR1315_0.out 0 p1317 q1317
               have hw1317_0 := hx1317_0
               (try rw [show ((0 : Int)).toNat = 0 from rfl] at hw1317_0)
               (try rw [show 0 * 1 = 0 from rfl] at hw1317_0)
               (try rw [Addr.add_zero'] at hw1317_0)
               cases e1317
               have qi1317 : (0 < (rd_L1 x4_1 x42_1).length) = True := eq_true (by omega)
               (try rw [show ((0 : Int)).toNat = 0 from rfl] at hx1317_0)
               (try rw [Addr.add_zero'] at hx1317_0)
               replace hx1317_0 := (HB.out.cell (World.block_lt_of_cell? W2 _ hx1317_0)).trans hx1317_0
               replace p1317 := eq_true p1317
               replace q1317 := eq_true q1317
               have p1318 : 0 ≤ (0 : Int) := (by omega)
               have q1318 : 0 < ((rd_L1 x4_1 x49_2).length : Int) := qd
               obtain ⟨ad1318, e1318, hx1318_0⟩ := Kd.at_int HR1316_0.out 0 p1318 q1318
               have hw1318_0 := hx1318_0
               (try rw [show ((0 : Int)).toNat = 0 from rfl] at hw1318_0)
               (try rw [show 0 * 1 = 0 from rfl] at hw1318_0)
               (try rw [Addr.add_zero'] at hw1318_0)
               cases e1318
               have qi1318 : (0 < (rd_L1 x4_1 x49_2).length) = True := eq_true (by omega)
               (try rw [show ((0 : Int)).toNat = 0 from rfl] at hx1318_0)
               (try rw [Addr.add_zero'] at hx1318_0)
               replace hx1318_0 := (HB.out.cell (World.block_lt_of_cell? W2 _ hx1318_0)).trans hx1318_0
               replace p1318 := eq_true p1318
               replace q1318 := eq_true q1318
               have p1319 : 0 ≤ (1 : Int) := (by omega)
               have q1319 : 1 < ((rd_L1 x4_1 x49_2).length : Int) := qd
               obtain ⟨ad1319, e1319, hx1319_0⟩ := Kd.at_int HR1316_0.out 1 p1319 q1319
               have hw1319_0 := hx1319_0
               (try rw [show ((1 : Int)).toNat = 1 from rfl] at hw1319_0)
               (try rw [show 1 * 1 = 1 from rfl] at hw1319_0)
               (try simp only [Nat.reduceMul, Nat.reduceEqDiff, Go.Addr.add, ↓reduceIte] at hw1319_0)
               obtain rfl : ad1318 = ad1319 := (by injection e1319)
               (try simp only [show (1 : Int).toNat = 1 from rfl, Nat.reduceMul, Nat.reduceEqDiff, Go.Addr.add, ↓reduceIte] at hx1319_0)
               have qi1319 : (1 < (rd_L1 x4_1 x49_2).length) = True := eq_true (by omega)
               (try rw [show ((1 : Int)).toNat = 1 from rfl] at hx1319_0)
               replace hx1319_0 := (HB.out.cell (World.block_lt_of_cell? W2 _ hx1319_0)).trans hx1319_0
               replace p1319 := eq_true p1319
               replace q1319 := eq_true q1319
               have p1320 : 0 ≤ (1 : Int) := (by omega)
               have q1320 : 1 < ((rd_L1 x4_1 x42_1).length : Int) := qd
               obtain ⟨ad1320, e1320, hx1320_0⟩ := Kd.at_int HR1315_0.out 1 p1320 q1320
               have hw1320_0 := hx1320_0
               (try rw [show ((1 : Int)).toNat = 1 from rfl] at hw1320_0)
               (try rw [show 1 * 1 = 1 from rfl] at hw1320_0)
               (try simp only [Nat.reduceMul, Nat.reduceEqDiff, Go.Addr.add, ↓reduceIte] at hw1320_0)
               obtain rfl : ad1317 = ad1320 := (by injection e1320)
               (try simp only [show (1 : Int).toNat = 1 from rfl, Nat.reduceMul, Nat.reduceEqDiff, Go.Addr.add, ↓reduceIte] at hx1320_0)
               have qi1320 : (1 < (rd_L1 x4_1 x42_1).length) = True := eq_true (by omega)
               (try rw [show ((1 : Int)).toNat = 1 from rfl] at hx1320_0)
               replace hx1320_0 := (HB.out.cell (World.block_lt_of_cell? W2 _ hx1320_0)).trans hx1320_0
               replace p1320 := eq_true p1320
               replace q1320 := eq_true q1320
               refine start_ (n := 21) (S := fun w' => w'.cell? ad1317 = some (.int .i64 (rd (rd_L1 x4_1 x42_1) 0)) ∧ w'.cell? ad1318 = some (.int .i64 (rd (rd_L1 x4_1 x49_2) 0)) ∧ w'.cell? ⟨ad1318.block, ad1318.off + 1, none⟩ = some (.int .i64 (rd (rd_L1 x4_1 x49_2) 1)) ∧ w'.cell? ⟨ad1317.block, ad1317.off + 1, none⟩ = some (.int .i64 (rd (rd_L1 x4_1 x42_1) 1))) (ds := []) #[false, false, false, false, false, false, false, false, false, false, false, false, false, false, false, false, false, false, false, false, false] (by kernel_rfl) rfl rfl ⟨((HB.out.cell (World.block_lt_of_cell? W2 _ hw1317_0)).trans hw1317_0), ((HB.out.cell (World.block_lt_of_cell? W2 _ hw1318_0)).trans hw1318_0), ((HB.out.cell (World.block_lt_of_cell? W2 _ hw1319_0)).trans hw1319_0), ((HB.out.cell (World.block_lt_of_cell? W2 _ hw1320_0)).trans hw1320_0)⟩ (fun hHeld => ?_); refine with_tabW spec_StairB.tab18 spec_StairB.bits18 (fun HT_ HW_ => ?_)
               generalize wr.drew = w31 at HO_1315000 BK1310 BK1314 HB hx1317_0 hx1318_0 hx1319_0 hx1320_0 hHeld ⊢
               refine pure_ (i := 0) (N := some 54) (v := ?_) (a' := ?_) #[true, false, false, false, false, false, false, false, false, false, false, false, false, false, false, false, false, false, false, false, false] rfl rfl (any_of HT_.out (by kernel_rfl)) (fun _ _ _ h => h) (Or.inl ⟨by rfl, ?_⟩) ?_ ?_
               rotate_left
               ·intro w'
                go_simp
                with_reducible rfl
               rotate_left
               ·exact qP
               refine pure_ (i := 1) (N := some 55) (v := ?_) (a' := ?_) #[true, true, false, false, false, false, false, false, false, false, false, false, false, false, false, false, false, false, false, false, false] rfl rfl (any_of HT_.out (by kernel_rfl)) (fun _ _ _ h => h) (Or.inl ⟨by rfl, ?_⟩) ?_ ?_
               rotate_left
               ·intro w'
                go_simp
                with_reducible rfl
               rotate_left
               ·exact qP
               refine pure_ (i := 2) (N := some 56) (v := ?_) (a' := ?_) #[true, true, true, false, false, false, false, false, false, false, false, false, false, false, false, false, false, false, false, false, false] rfl rfl (any_of HT_.out (by kernel_rfl)) (fun _ _ _ h => h) (Or.inl ⟨by rfl, ?_⟩) ?_ ?_
               rotate_left
               ·intro w'
                go_simp
                with_reducible rfl
               rotate_left
               ·exact qP
               refine pure_ (i := 3) (N := some 57) (v := ?_) (a' := ?_) #[true, true, true, true, false, false, false, false, false, false, false, false, false, false, false, false, false, false, false, false, false] rfl rfl (any_of HT_.out (by kernel_rfl)) (fun _ _ _ h => h) (Or.inl ⟨by rfl, ?_⟩) ?_ ?_
               rotate_left
               ·intro w'
                go_simp
                with_reducible rfl
               rotate_left
               ·exact qP
               refine pure_ (i := 4) (N := some 58) (v := ?_) (a' := ?_) #[true, true, true, true, true, false, false, false, false, false, false, false, false, false, false, false, false, false, false, false, false] rfl rfl (any_of HT_.out (by kernel_rfl)) (fun _ _ _ h => h) (Or.inl ⟨by rfl, ?_⟩) ?_ ?_
               rotate_left
               ·intro w'
                go_simp
                with_reducible rfl
               rotate_left
               ·exact qP
               refine pure_ (i := 5) (N := some 59) (v := ?_) (a' := ?_) #[true, true, true, true, true, true, false, false, false, false, false, false, false, false, false, false, false, false, false, false, false] rfl rfl (any_of HT_.out (by kernel_rfl)) (fun _ _ _ h => h) (Or.inl ⟨by rfl, ?_⟩) ?_ ?_
               rotate_left
               ·intro w'
                go_simp
                with_reducible rfl
               rotate_left
               ·exact qP
               refine pure_ (i := 7) (N := some 61) (v := ?_) (a' := ?_) #[true, true, true, true, true, true, false, true, false, false, false, false, false, false, false, false, false, false, false, false, false] rfl rfl (any_of HT_.out (by kernel_rfl)) (fun _ _ _ h => h) (Or.inl ⟨by rfl, ?_⟩) ?_ ?_
               rotate_left
               ·intro w'
                go_simp
                with_reducible rfl
               rotate_left
               ·exact qP
               refine pure_ (i := 8) (N := some 62) (v := ?_) (a' := ?_) #[true, true, true, true, true, true, false, true, true, false, false, false, false, false, false, false, false, false, false, false, false] rfl rfl (any_of HT_.out (by kernel_rfl)) (fun _ _ _ h => h) (Or.inl ⟨by rfl, ?_⟩) ?_ ?_
               rotate_left
               ·intro w'
                go_simp
                with_reducible rfl
               rotate_left
               ·exact qP
               refine take_ (i := 6) (N := some 60) (v := ?_) (a' := ?_) #[true, true, true, true, true, true, true, true, true, false, false, false, false, false, false, false, false, false, false, false, false] rfl rfl (take_ofW HT_.out HW_.out (by kernel_rfl)) (fun _ _ _ h => h) (Or.inl ⟨by rfl, ?_⟩) hHeld ?_ ?_
               rotate_left
               ·rintro w' ⟨s0, s1, s2, s3⟩
                go_simp
                with_reducible rfl
               rotate_left
               ·exact qP
               refine take_ (i := 9) (N := some 63) (v := ?_) (a' := ?_) #[true, true, true, true, true, true, true, true, true, true, false, false, false, false, false, false, false, false, false, false, false] rfl rfl (take_ofW HT_.out HW_.out (by kernel_rfl)) (fun _ _ _ h => h) (Or.inl ⟨by rfl, ?_⟩) hHeld ?_ ?_
               rotate_left
               ·rintro w' ⟨s0, s1, s2, s3⟩
                go_simp
                with_reducible rfl
               rotate_left
               ·exact qP
               refine pure_ (i := 10) (N := some 64) (v := ?_) (a' := ?_) #[true, true, true, true, true, true, true, true, true, true, true, false, false, false, false, false, false, false, false, false, false] rfl rfl (any_of HT_.out (by kernel_rfl)) (fun _ _ _ h => h) (Or.inl ⟨by rfl, ?_⟩) ?_ ?_
               rotate_left
               ·intro w'
                go_simp
                with_reducible rfl
               rotate_left
               ·exact qP
               refine pure_ (i := 11) (N := some 65) (v := ?_) (a' := ?_) #[true, true, true, true, true, true, true, true, true, true, true, true, false, false, false, false, false, false, false, false, false] rfl rfl (any_of HT_.out (by kernel_rfl)) (fun _ _ _ h => h) (Or.inl ⟨by rfl, ?_⟩) ?_ ?_
               rotate_left
               ·intro w'
                go_simp
                with_reducible rfl
               rotate_left
               ·exact qP
               refine pure_ (i := 12) (N := some 66) (v := ?_) (a' := ?_) #[true, true, true, true, true, true, true, true, true, true, true, true, true, false, false, false, false, false, false, false, false] rfl rfl (any_of HT_.out (by kernel_rfl)) (fun _ _ _ h => h) (Or.inl ⟨by rfl, ?_⟩) ?_ ?_
               rotate_left
               ·intro w'
                go_simp
                with_reducible rfl
               rotate_left
               ·exact qP
               refine pure_ (i := 13) (N := some 67) (v := ?_) (a' := ?_) #[true, true, true, true, true, true, true, true, true, true, true, true, true, true, false, false, false, false, false, false, false] rfl rfl (any_of HT_.out (by kernel_rfl)) (fun _ _ _ h => h) (Or.inl ⟨by rfl, ?_⟩) ?_ ?_
               rotate_left
               ·intro w'
                go_simp
                with_reducible rfl
               rotate_left
               ·exact qP
               refine pure_ (i := 14) (N := some 68) (v := ?_) (a' := ?_) #[true, true, true, true, true, true, true, true, true, true, true, true, true, true, true, false, false, false, false, false, false] rfl rfl (any_of HT_.out (by kernel_rfl)) (fun _ _ _ h => h) (Or.inl ⟨by rfl, ?_⟩) ?_ ?_
               rotate_left
               ·intro w'
                go_simp
                with_reducible rfl
               rotate_left
               ·exact qP
               refine pure_ (i := 16) (N := some 70) (v := ?_) (a' := ?_) #[true, true, true, true, true, true, true, true, true, true, true, true, true, true, true, false, true, false, false, false, false] rfl rfl (any_of HT_.out (by kernel_rfl)) (fun _ _ _ h => h) (Or.inl ⟨by rfl, ?_⟩) ?_ ?_
               rotate_left
               ·intro w'
                go_simp
                with_reducible rfl
               rotate_left
               ·exact qP
               refine pure_ (i := 17) (N := some 71) (v := ?_) (a' := ?_) #[true, true, true, true, true, true, true, true, true, true, true, true, true, true, true, false, true, true, false, false, false] rfl rfl (any_of HT_.out (by kernel_rfl)) (fun _ _ _ h => h) (Or.inl ⟨by rfl, ?_⟩) ?_ ?_
               rotate_left
               ·intro w'
                go_simp
                with_reducible rfl
               rotate_left
               ·exact qP
               refine take_ (i := 15) (N := some 69) (v := ?_) (a' := ?_) #[true, true, true, true, true, true, true, true, true, true, true, true, true, true, true, true, true, true, false, false, false] rfl rfl (take_ofW HT_.out HW_.out (by kernel_rfl)) (fun _ _ _ h => h) (Or.inl ⟨by rfl, ?_⟩) hHeld ?_ ?_
               rotate_left
               ·rintro w' ⟨s0, s1, s2, s3⟩
                go_simp
                with_reducible rfl
               rotate_left
               ·exact qP
               refine take_ (i := 18) (N := some 72) (v := ?_) (a' := ?_) #[true, true, true, true, true, true, true, true, true, true, true, true, true, true, true, true, true, true, true, false, false] rfl rfl (take_ofW HT_.out HW_.out (by kernel_rfl)) (fun _ _ _ h => h) (Or.inl ⟨by rfl, ?_⟩) hHeld ?_ ?_
               rotate_left
               ·rintro w' ⟨s0, s1, s2, s3⟩
                go_simp
                with_reducible rfl
               rotate_left
               ·exact qP
               refine pure_ (i := 19) (N := some 73) (v := ?_) (a' := ?_) #[true, true, true, true, true, true, true, true, true, true, true, true, true, true, true, true, true, true, true, true, false] rfl rfl (any_of HT_.out (by kernel_rfl)) (fun _ _ _ h => h) (Or.inl ⟨by rfl, ?_⟩) ?_ ?_
               rotate_left
               ·intro w'
                go_simp
                with_reducible rfl
               rotate_left
               ·exact qP
               refine pure_ (i := 20) (N := some 74) (v := ?_) (a' := ?_) #[true, true, true, true, true, true, true, true, true, true, true, true, true, true, true, true, true, true, true, true, true] rfl rfl (any_of HT_.out (by kernel_rfl)) (fun _ _ _ h => h) (Or.inl ⟨by rfl, ?_⟩) ?_ ?_
               rotate_left
               ·intro w'
                go_simp
                with_reducible rfl
               rotate_left
               ·exact qP
               refine done_ (done_of HT_.out (by kernel_rfl)) ?_
               try go_wp2
               have n0_ := am (Kd.R_drew HO_1315000.out)
               have n1_ := am (blk_drew BK1310.out)
               have n2_ := am (blk_drew BK1314.out)
               have n3_ := am (below_drew1 HB.out)
               clear HO_1315000
               clear BK1310
               clear BK1314
               clear HB
               have HO_1315000 := n0_
               have BK1310 := n1_
               have BK1314 := n2_
               have HB := n3_
               clear n0_ n1_ n2_ n3_
               obtain ⟨Ao33, co33, eo33⟩ := Kd.R_slice HO_1315000.out
               (first | subst eo33 | (injection eo33 with f1_ f2_ f3_; have f4_ := f1_.symm; have f5_ := f3_.symm; clear f1_ f2_ f3_; subst f4_; subst f5_))
               have p1321 : 0 ≤ (x42_1 : Int) := qd
               have q1321 : x42_1 < (x1315000_2.length : Int) := qd
               obtain ⟨ad1321, e1321, hx1321_0⟩ := Kd.at_int (Kd.R_reads' HO_1315000.out).2.2 x42_1 p1321 q1321
               cases e1321
               replace p1321 := eq_true p1321
               replace q1321 := eq_true q1321
               have p30 : 0 ≤ (x42_1 : Int) := qd
               have q30 : (x42_1 : Int) < ((x1315000_2.length : Int) : Int) := qd
               obtain ⟨go30, co30, eo30, gb30, gl30, cl30, HG30⟩ := Kd.R_form HO_1315000.out (by omega)
               (first | cases eo30 | (injection eo30 with ea_ en_ ec_; (first | subst ea_ | (injection ea_ with ea_; subst ea_)); subst ec_; clear en_))
               have GB30 := am gb30
               have GG30 := am HG30
               clear gb30 gl30 HG30
               (first | simp only [add_plain] at hx1321_0 | skip)
               obtain ⟨hx30_0, hf30_0⟩ := Kd.R_celln 0 HO_1315000.out (x42_1 : Int) p30 q30
               replace p30 := eq_true p30
               replace q30 := eq_true q30
               have HP34 := Kd.R_putn HO_1315000.out (x42_1 : Int) (Go.bits .or .i64 (rd x1315000_2 x42_1) (ji29))
               rw [← Ny1322.out] at HP34
               have HQ34 := am HP34
               clear HP34
               refine start_ (n := 10) (S := fun w' => w'.cell? ⟨gb1314, 0, none⟩ = some (.slice (some ⟨go30, 0, none⟩) x1315000_2.length co33) ∧ w'.cell? ⟨go30, (x42_1).toNat, none⟩ = some (.int .i64 (rd x1315000_2 x42_1))) (ds := [9]) #[false, false, false, false, false, false, false, false, false, false] (by kernel_rfl) rfl rfl ⟨(blk_cell BK1314.out 0).trans rfl, hx1321_0⟩ (fun hHeld => ?_); refine with_tabW spec_StairB.tab19 spec_StairB.bits19 (fun HT_ HW_ => ?_)
               generalize w31.drew = w32 at HO_1315000 BK1310 BK1314 HB GG30 HQ34 hf30_0 hx1321_0 hx30_0 hHeld ⊢
               refine pure_ (i := 0) (N := some 75) (v := ?_) (a' := ?_) #[true, false, false, false, false, false, false, false, false, false] rfl rfl (any_of HT_.out (by kernel_rfl)) (fun _ _ _ h => h) (Or.inl ⟨by rfl, ?_⟩) ?_ ?_
               rotate_left
               ·intro w'
                go_simp
                with_reducible rfl
               rotate_left
               ·exact qP
               refine pure_ (i := 2) (N := some 77) (v := ?_) (a' := ?_) #[true, false, true, false, false, false, false, false, false, false] rfl rfl (any_of HT_.out (by kernel_rfl)) (fun _ _ _ h => h) (Or.inl ⟨by rfl, ?_⟩) ?_ ?_
               rotate_left
               ·intro w'
                go_simp
                with_reducible rfl
               rotate_left
               ·exact qP
               refine pure_ (i := 5) (N := some 80) (v := ?_) (a' := ?_) #[true, false, true, false, false, true, false, false, false, false] rfl rfl (any_of HT_.out (by kernel_rfl)) (fun _ _ _ h => h) (Or.inl ⟨by rfl, ?_⟩) ?_ ?_
               rotate_left
               ·intro w'
                go_simp
                with_reducible rfl
               rotate_left
               ·exact qP
               refine pure_ (i := 6) (N := some 81) (v := ?_) (a' := ?_) #[true, false, true, false, false, true, true, false, false, false] rfl rfl (any_of HT_.out (by kernel_rfl)) (fun _ _ _ h => h) (Or.inl ⟨by rfl, ?_⟩) ?_ ?_
               rotate_left
               ·intro w'
                go_simp
                with_reducible rfl
               rotate_left
               ·exact qP
               refine take_ (i := 1) (N := some 76) (v := ?_) (a' := ?_) #[true, true, true, false, false, true, true, false, false, false] rfl rfl (take_ofW HT_.out HW_.out (by kernel_rfl)) (fun _ _ _ h => h) (Or.inl ⟨by rfl, ?_⟩) hHeld ?_ ?_
               rotate_left
               ·rintro w' ⟨s0, s1⟩
                go_simp
                with_reducible rfl
               rotate_left
               ·exact qP
               refine pure_ (i := 3) (N := some 78) (v := ?_) (a' := ?_) #[true, true, true, true, false, true, true, false, false, false] rfl rfl (any_of HT_.out (by kernel_rfl)) (fun _ _ _ h => h) (Or.inl ⟨by rfl, ?_⟩) ?_ ?_
               rotate_left
               ·intro w'
                go_simp
                with_reducible rfl
               rotate_left
               ·exact qP
               refine take_ (i := 4) (N := some 79) (v := ?_) (a' := ?_) #[true, true, true, true, true, true, true, false, false, false] rfl rfl (take_ofW HT_.out HW_.out (by kernel_rfl)) (fun _ _ _ h => h) (Or.inl ⟨by rfl, ?_⟩) hHeld ?_ ?_
               rotate_left
               ·rintro w' ⟨s0, s1⟩
                go_simp
                with_reducible rfl
               rotate_left
               ·exact qP
               refine pure_ (i := 7) (N := some 82) (v := ?_) (a' := ?_) #[true, true, true, true, true, true, true, true, false, false] rfl rfl (any_of HT_.out (by kernel_rfl)) (fun _ _ _ h => h) (Or.inl ⟨by rfl, ?_⟩) ?_ ?_
               rotate_left
               ·intro w'
                go_simp
                with_reducible rfl
               rotate_left
               ·exact qP
               refine pure_ (i := 8) (N := some 83) (v := ?_) (a' := ?_) #[true, true, true, true, true, true, true, true, true, false] rfl rfl (any_of HT_.out (by kernel_rfl)) (fun _ _ _ h => h) (Or.inl ⟨by rfl, ?_⟩) ?_ ?_
               rotate_left
               ·intro w'
                go_simp
                with_reducible rfl
               rotate_left
               ·exact qP
               refine last_ (i := 9) (N := none) #[true, true, true, true, true, true, true, true, true, true] rfl rfl (one_of HT_.out (by kernel_rfl)) (by decide) (fun K hK => ?_)
               refine skip_ (w1 := ?_) (by rfl) rfl ?_ ?_
               rotate_left
               ·go_simp
                rfl
               refine hK.out _ _ ?_
               clear hK K
               refine done_ (done_of HT_.out (by kernel_rfl)) ?_
               try go_wp2
               go_roundg k2
               case measure => have := HK1.out; have := HK2.out; omega
               case rel => exact ⟨(wrap64 (x49_2 + 1)), (y1322), (.slice (some ⟨go30, 0, none⟩) x1315000_2.length co33), qe, H', ⟨by have := HK1.out; have := HK2.out; omega⟩, ⟨qR HQ34.out⟩, ⟨by (with_reducible repeat (first | refine blk_drewN ?_ _ | refine blk_drew ?_ | refine blk_alloc ?_ _)); refine blk_far ?_ (by have h_ := Kd.R_ne HO_1315000.out BK1310.out (by decide); intro e_; exact h_ (by rw [e_]; rfl)) _; refine qb ?_; exact BK1310.out⟩, ⟨by (with_reducible repeat (first | refine blk_drewN ?_ _ | refine blk_drew ?_ | refine blk_alloc ?_ _)); refine blk_far ?_ (by have h_ := Kd.R_ne HO_1315000.out BK1314.out (by decide); intro e_; exact h_ (by rw [e_]; rfl)) _; refine qb ?_; exact BK1314.out⟩, ⟨qB⟩⟩
              ·rw [if_neg c25] at H
               have c25b0 := decide_eq_false c25
               clear c25
               have H' := am H
               clear H
               have p1316 : 0 ≤ (x49_2 : Int) := qd
               have q1316 : x49_2 < (x4_1.length : Int) := qd
               obtain ⟨ad1316, A1316_0, c1316_0, e1316, hx1316_0, hl1316_0, hi1316_0⟩ := at_L1 HR1.out x49_2 p1316 q1316
               obtain rfl : ad1315 = ad1316 := (by injection e1316)
               replace hx1316_0 := (HB.out.cell (World.block_lt_of_cell? W2 _ hx1316_0)).trans hx1316_0
               have HR1316_0 := am hi1316_0
               have HC1316_0 := am hl1316_0
               clear hi1316_0 hl1316_0
               replace p1316 := eq_true p1316
               replace q1316 := eq_true q1316
               try go_wp2
               have n0_ := am (Kd.R_drew HO_1315000.out)
               have n1_ := am (blk_drew BK1310.out)
               have n2_ := am (blk_drew BK1314.out)
               have n3_ := am (below_drew1 HB.out)
               clear HO_1315000
               clear BK1310
               clear BK1314
               clear HB
               have HO_1315000 := n0_
               have BK1310 := n1_
               have BK1314 := n2_
               have HB := n3_
               clear n0_ n1_ n2_ n3_
               have p1317 : 0 ≤ (0 : Int) := (by omega)
               have q1317 : 0 < ((rd_L1 x4_1 x42_1).length : Int) := qd
               obtain ⟨ad1317, e1317, hx1317_0⟩ := Kd.at_int HR1315_0.out 0 p1317 q1317
               have hw1317_0 := hx1317_0
               (try rw [show ((0 : Int)).toNat = 0 from rfl] at hw1317_0)
               (try rw [show 0 * 1 = 0 from rfl] at hw1317_0)
               (try rw [Addr.add_zero'] at hw1317_0)
               cases e1317
               have qi1317 : (0 < (rd_L1 x4_1 x42_1).length) = True := eq_true (by omega)
               (try rw [show ((0 : Int)).toNat = 0 from rfl] at hx1317_0)
               (try rw [Addr.add_zero'] at hx1317_0)
               replace hx1317_0 := (HB.out.cell (World.block_lt_of_cell? W2 _ hx1317_0)).trans hx1317_0
               replace p1317 := eq_true p1317
               replace q1317 := eq_true q1317
               have p1318 : 0 ≤ (0 : Int) := (by omega)
               have q1318 : 0 < ((rd_L1 x4_1 x49_2).length : Int) := qd
               obtain ⟨ad1318, e1318, hx1318_0⟩ := Kd.at_int HR1316_0.out 0 p1318 q1318
               have hw1318_0 := hx1318_0
               (try rw [show ((0 : Int)).toNat = 0 from rfl] at hw1318_0)
               (try rw [show 0 * 1 = 0 from rfl] at hw1318_0)
               (try rw [Addr.add_zero'] at hw1318_0)
               cases e1318
               have qi1318 : (0 < (rd_L1 x4_1 x49_2).length) = True := eq_true (by omega)
               (try rw [show ((0 : Int)).toNat = 0 from rfl] at hx1318_0)
               (try rw [Addr.add_zero'] at hx1318_0)
               replace hx1318_0 := (HB.out.cell (World.block_lt_of_cell? W2 _ hx1318_0)).trans hx1318_0
               replace p1318 := eq_true p1318
               replace q1318 := eq_true q1318
               have p1319 : 0 ≤ (1 : Int) := (by omega)
               have q1319 : 1 < ((rd_L1 x4_1 x49_2).length : Int) := qd
               obtain ⟨ad1319, e1319, hx1319_0⟩ := Kd.at_int HR1316_0.out 1 p1319 q1319
               have hw1319_0 := hx1319_0
               (try rw [show ((1 : Int)).toNat = 1 from rfl] at hw1319_0)
               (try rw [show 1 * 1 = 1 from rfl] at hw1319_0)
               (try simp only [Nat.reduceMul, Nat.reduceEqDiff, Go.Addr.add, ↓reduceIte] at hw1319_0)
               obtain rfl : ad1318 = ad1319 := (by injection e1319)
               (try simp only [show (1 : Int).toNat = 1 from rfl, Nat.reduceMul, Nat.reduceEqDiff, Go.Addr.add, ↓reduceIte] at hx1319_0)
               have qi1319 : (1 < (rd_L1 x4_1 x49_2).length) = True := eq_true (by omega)
               (try rw [show ((1 : Int)).toNat = 1 from rfl] at hx1319_0)
               replace hx1319_0 := (HB.out.cell (World.block_lt_of_cell? W2 _ hx1319_0)).trans hx1319_0
               replace p1319 := eq_true p1319
               replace q1319 := eq_true q1319
               have p1320 : 0 ≤ (1 : Int) := (by omega)
               have q1320 : 1 < ((rd_L1 x4_1 x42_1).length : Int) := qd
               obtain ⟨ad1320, e1320, hx1320_0⟩ := Kd.at_int HR1315_0.out 1 p1320 q1320
               have hw1320_0 := hx1320_0
               (try rw [show ((1 : Int)).toNat = 1 from rfl] at hw1320_0)
               (try rw [show 1 * 1 = 1 from rfl] at hw1320_0)
               (try simp only [Nat.reduceMul, Nat.reduceEqDiff, Go.Addr.add, ↓reduceIte] at hw1320_0)
               obtain rfl : ad1317 = ad1320 := (by injection e1320)
               (try simp only [show (1 : Int).toNat = 1 from rfl, Nat.reduceMul, Nat.reduceEqDiff, Go.Addr.add, ↓reduceIte] at hx1320_0)
               have qi1320 : (1 < (rd_L1 x4_1 x42_1).length) = True := eq_true (by omega)
               (try rw [show ((1 : Int)).toNat = 1 from rfl] at hx1320_0)
               replace hx1320_0 := (HB.out.cell (World.block_lt_of_cell? W2 _ hx1320_0)).trans hx1320_0
               replace p1320 := eq_true p1320
               replace q1320 := eq_true q1320
               refine start_ (n := 21) (S := fun w' => w'.cell? ad1317 = some (.int .i64 (rd (rd_L1 x4_1 x42_1) 0)) ∧ w'.cell? ad1318 = some (.int .i64 (rd (rd_L1 x4_1 x49_2) 0)) ∧ w'.cell? ⟨ad1318.block, ad1318.off + 1, none⟩ = some (.int .i64 (rd (rd_L1 x4_1 x49_2) 1)) ∧ w'.cell? ⟨ad1317.block, ad1317.off + 1, none⟩ = some (.int .i64 (rd (rd_L1 x4_1 x42_1) 1))) (ds := []) #[false, false, false, false, false, false, false, false, false, false, false, false, false, false, false, false, false, false, false, false, false] (by kernel_rfl) rfl rfl ⟨((HB.out.cell (World.block_lt_of_cell? W2 _ hw1317_0)).trans hw1317_0), ((HB.out.cell (World.block_lt_of_cell? W2 _ hw1318_0)).trans hw1318_0), ((HB.out.cell (World.block_lt_of_cell? W2 _ hw1319_0)).trans hw1319_0), ((HB.out.cell (World.block_lt_of_cell? W2 _ hw1320_0)).trans hw1320_0)⟩ (fun hHeld => ?_); refine with_tabW spec_StairB.tab18 spec_StairB.bits18 (fun HT_ HW_ => ?_)
               generalize wr.drew = w35 at HO_1315000 BK1310 BK1314 HB hx1317_0 hx1318_0 hx1319_0 hx1320_0 hHeld ⊢
               refine pure_ (i := 0) (N := some 54) (v := ?_) (a' := ?_) #[true, false, false, false, false, false, false, false, false, false, false, false, false, false, false, false, false, false, false, false, false] rfl rfl (any_of HT_.out (by kernel_rfl)) (fun _ _ _ h => h) (Or.inl ⟨by rfl, ?_⟩) ?_ ?_
               rotate_left
               ·intro w'
                go_simp
                with_reducible rfl
               rotate_left
               ·exact qP
               refine pure_ (i := 1) (N := some 55) (v := ?_) (a' := ?_) #[true, true, false, false, false, false, false, false, false, false, false, false, false, false, false, false, false, false, false, false, false] rfl rfl (any_of HT_.out (by kernel_rfl)) (fun _ _ _ h => h) (Or.inl ⟨by rfl, ?_⟩) ?_ ?_
               rotate_left
               ·intro w'
                go_simp
                with_reducible rfl
               rotate_left
               ·exact qP
               refine pure_ (i := 2) (N := some 56) (v := ?_) (a' := ?_) #[true, true, true, false, false, false, false, false, false, false, false, false, false, false, false, false, false, false, false, false, false] rfl rfl (any_of HT_.out (by kernel_rfl)) (fun _ _ _ h => h) (Or.inl ⟨by rfl, ?_⟩) ?_ ?_
               rotate_left
               ·intro w'
                go_simp
                with_reducible rfl
               rotate_left
               ·exact qP
               refine pure_ (i := 3) (N := some 57) (v := ?_) (a' := ?_) #[true, true, true, true, false, false, false, false, false, false, false, false, false, false, false, false, false, false, false, false, false] rfl rfl (any_of HT_.out (by kernel_rfl)) (fun _ _ _ h => h) (Or.inl ⟨by rfl, ?_⟩) ?_ ?_
               rotate_left
               ·intro w'
                go_simp
                with_reducible rfl
               rotate_left
               ·exact qP
               refine pure_ (i := 4) (N := some 58) (v := ?_) (a' := ?_) #[true, true, true, true, true, false, false, false, false, false, false, false, false, false, false, false, false, false, false, false, false] rfl rfl (any_of HT_.out (by kernel_rfl)) (fun _ _ _ h => h) (Or.inl ⟨by rfl, ?_⟩) ?_ ?_
               rotate_left
               ·intro w'
                go_simp
                with_reducible rfl
               rotate_left
               ·exact qP
               refine pure_ (i := 5) (N := some 59) (v := ?_) (a' := ?_) #[true, true, true, true, true, true, false, false, false, false, false, false, false, false, false, false, false, false, false, false, false] rfl rfl (any_of HT_.out (by kernel_rfl)) (fun _ _ _ h => h) (Or.inl ⟨by rfl, ?_⟩) ?_ ?_
               rotate_left
               ·intro w'
                go_simp
                with_reducible rfl
               rotate_left
               ·exact qP
               refine pure_ (i := 7) (N := some 61) (v := ?_) (a' := ?_) #[true, true, true, true, true, true, false, true, false, false, false, false, false, false, false, false, false, false, false, false, false] rfl rfl (any_of HT_.out (by kernel_rfl)) (fun _ _ _ h => h) (Or.inl ⟨by rfl, ?_⟩) ?_ ?_
               rotate_left
               ·intro w'
                go_simp
                with_reducible rfl
               rotate_left
               ·exact qP
               refine pure_ (i := 8) (N := some 62) (v := ?_) (a' := ?_) #[true, true, true, true, true, true, false, true, true, false, false, false, false, false, false, false, false, false, false, false, false] rfl rfl (any_of HT_.out (by kernel_rfl)) (fun _ _ _ h => h) (Or.inl ⟨by rfl, ?_⟩) ?_ ?_
               rotate_left
               ·intro w'
                go_simp
                with_reducible rfl
               rotate_left
               ·exact qP
               refine take_ (i := 6) (N := some 60) (v := ?_) (a' := ?_) #[true, true, true, true, true, true, true, true, true, false, false, false, false, false, false, false, false, false, false, false, false] rfl rfl (take_ofW HT_.out HW_.out (by kernel_rfl)) (fun _ _ _ h => h) (Or.inl ⟨by rfl, ?_⟩) hHeld ?_ ?_
               rotate_left
               ·rintro w' ⟨s0, s1, s2, s3⟩
                go_simp
                with_reducible rfl
               rotate_left
               ·exact qP
               refine take_ (i := 9) (N := some 63) (v := ?_) (a' := ?_) #[true, true, true, true, true, true, true, true, true, true, false, false, false, false, false, false, false, false, false, false, false] rfl rfl (take_ofW HT_.out HW_.out (by kernel_rfl)) (fun _ _ _ h => h) (Or.inl ⟨by rfl, ?_⟩) hHeld ?_ ?_
               rotate_left
               ·rintro w' ⟨s0, s1, s2, s3⟩
                go_simp
                with_reducible rfl
               rotate_left
               ·exact qP
               refine pure_ (i := 10) (N := some 64) (v := ?_) (a' := ?_) #[true, true, true, true, true, true, true, true, true, true, true, false, false, false, false, false, false, false, false, false, false] rfl rfl (any_of HT_.out (by kernel_rfl)) (fun _ _ _ h => h) (Or.inl ⟨by rfl, ?_⟩) ?_ ?_
               rotate_left
               ·intro w'
                go_simp
                with_reducible rfl
               rotate_left
               ·exact qP
               refine pure_ (i := 11) (N := some 65) (v := ?_) (a' := ?_) #[true, true, true, true, true, true, true, true, true, true, true, true, false, false, false, false, false, false, false, false, false] rfl rfl (any_of HT_.out (by kernel_rfl)) (fun _ _ _ h => h) (Or.inl ⟨by rfl, ?_⟩) ?_ ?_
               rotate_left
               ·intro w'
                go_simp
                with_reducible rfl
               rotate_left
               ·exact qP
               refine pure_ (i := 12) (N := some 66) (v := ?_) (a' := ?_) #[true, true, true, true, true, true, true, true, true, true, true, true, true, false, false, false, false, false, false, false, false] rfl rfl (any_of HT_.out (by kernel_rfl)) (fun _ _ _ h => h) (Or.inl ⟨by rfl, ?_⟩) ?_ ?_
               rotate_left
               ·intro w'
                go_simp
                with_reducible rfl
               rotate_left
               ·exact qP
               refine pure_ (i := 13) (N := some 67) (v := ?_) (a' := ?_) #[true, true, true, true, true, true, true, true, true, true, true, true, true, true, false, false, false, false, false, false, false] rfl rfl (any_of HT_.out (by kernel_rfl)) (fun _ _ _ h => h) (Or.inl ⟨by rfl, ?_⟩) ?_ ?_
               rotate_left
               ·intro w'
                go_simp
                with_reducible rfl
               rotate_left
               ·exact qP
               refine pure_ (i := 14) (N := some 68) (v := ?_) (a' := ?_) #[true, true, true, true, true, true, true, true, true, true, true, true, true, true, true, false, false, false, false, false, false] rfl rfl (any_of HT_.out (by kernel_rfl)) (fun _ _ _ h => h) (Or.inl ⟨by rfl, ?_⟩) ?_ ?_
               rotate_left
               ·intro w'
                go_simp
                with_reducible rfl
               rotate_left
               ·exact qP
               refine pure_ (i := 16) (N := some 70) (v := ?_) (a' := ?_) #[true, true, true, true, true, true, true, true, true, true, true, true, true, true, true, false, true, false, false, false, false] rfl rfl (any_of HT_.out (by kernel_rfl)) (fun _ _ _ h => h) (Or.inl ⟨by rfl, ?_⟩) ?_ ?_
               rotate_left
               ·intro w'
                go_simp
                with_reducible rfl
               rotate_left
               ·exact qP
               refine pure_ (i := 17) (N := some 71) (v := ?_) (a' := ?_) #[true, true, true, true, true, true, true, true, true, true, true, true, true, true, true, false, true, true, false, false, false] rfl rfl (any_of HT_.out (by kernel_rfl)) (fun _ _ _ h => h) (Or.inl ⟨by rfl, ?_⟩) ?_ ?_
               rotate_left
               ·intro w'
                go_simp
                with_reducible rfl
               rotate_left
               ·exact qP
               refine take_ (i := 15) (N := some 69) (v := ?_) (a' := ?_) #[true, true, true, true, true, true, true, true, true, true, true, true, true, true, true, true, true, true, false, false, false] rfl rfl (take_ofW HT_.out HW_.out (by kernel_rfl)) (fun _ _ _ h => h) (Or.inl ⟨by rfl, ?_⟩) hHeld ?_ ?_
               rotate_left
               ·rintro w' ⟨s0, s1, s2, s3⟩
                go_simp
                with_reducible rfl
               rotate_left
               ·exact qP
               refine take_ (i := 18) (N := some 72) (v := ?_) (a' := ?_) #[true, true, true, true, true, true, true, true, true, true, true, true, true, true, true, true, true, true, true, false, false] rfl rfl (take_ofW HT_.out HW_.out (by kernel_rfl)) (fun _ _ _ h => h) (Or.inl ⟨by rfl, ?_⟩) hHeld ?_ ?_
               rotate_left
               ·rintro w' ⟨s0, s1, s2, s3⟩
                go_simp
                with_reducible rfl
               rotate_left
               ·exact qP
               refine pure_ (i := 19) (N := some 73) (v := ?_) (a' := ?_) #[true, true, true, true, true, true, true, true, true, true, true, true, true, true, true, true, true, true, true, true, false] rfl rfl (any_of HT_.out (by kernel_rfl)) (fun _ _ _ h => h) (Or.inl ⟨by rfl, ?_⟩) ?_ ?_
               rotate_left
               ·intro w'
                go_simp
                with_reducible rfl
               rotate_left
               ·exact qP
               refine pure_ (i := 20) (N := some 74) (v := ?_) (a' := ?_) #[true, true, true, true, true, true, true, true, true, true, true, true, true, true, true, true, true, true, true, true, true] rfl rfl (any_of HT_.out (by kernel_rfl)) (fun _ _ _ h => h) (Or.inl ⟨by rfl, ?_⟩) ?_ ?_
               rotate_left
               ·intro w'
                go_simp
                with_reducible rfl
               rotate_left
               ·exact qP
               refine done_ (done_of HT_.out (by kernel_rfl)) ?_
               try go_wp2
               go_roundg k2
               case measure => have := HK1.out; have := HK2.out; omega
               case rel => exact ⟨(wrap64 (x49_2 + 1)), (x1315000_2), (u1315000), qe, H', ⟨by have := HK1.out; have := HK2.out; omega⟩, ⟨qR HO_1315000.out⟩, ⟨qb BK1310.out⟩, ⟨qb BK1314.out⟩, ⟨qB⟩⟩
             ·rw [if_neg c22] at H
              have c22b0 := decide_eq_false c22
              clear c22
              have H' := am H
              clear H
              have p1316 : 0 ≤ (x49_2 : Int) := qd
              have q1316 : x49_2 < (x4_1.length : Int) := qd
              obtain ⟨ad1316, A1316_0, c1316_0, e1316, hx1316_0, hl1316_0, hi1316_0⟩ := at_L1 HR1.out x49_2 p1316 q1316
              obtain rfl : ad1315 = ad1316 := (by injection e1316)
              replace hx1316_0 := (HB.out.cell (World.block_lt_of_cell? W2 _ hx1316_0)).trans hx1316_0
              have HR1316_0 := am hi1316_0
              have HC1316_0 := am hl1316_0
              clear hi1316_0 hl1316_0
              replace p1316 := eq_true p1316
              replace q1316 := eq_true q1316
              try go_wp2
              have n0_ := am (Kd.R_drew HO_1315000.out)
              have n1_ := am (blk_drew BK1310.out)
              have n2_ := am (blk_drew BK1314.out)
              have n3_ := am (below_drew1 HB.out)
              clear HO_1315000
              clear BK1310
              clear BK1314
              clear HB
              have HO_1315000 := n0_
              have BK1310 := n1_
              have BK1314 := n2_
              have HB := n3_
              clear n0_ n1_ n2_ n3_
              have p1317 : 0 ≤ (0 : Int) := (by omega)
              have q1317 : 0 < ((rd_L1 x4_1 x42_1).length : Int) := qd
              obtain ⟨ad1317, e1317, hx1317_0⟩ := Kd.at_int HR1315_0.out 0 p1317 q1317
              have hw1317_0 := hx1317_0
              (try rw [show ((0 : Int)).toNat = 0 from rfl] at hw1317_0)
              (try rw [show 0 * 1 = 0 from rfl] at hw1317_0)
              (try rw [Addr.add_zero'] at hw1317_0)
              cases e1317
              have qi1317 : (0 < (rd_L1 x4_1 x42_1).length) = True := eq_true (by omega)
              (try rw [show ((0 : Int)).toNat = 0 from rfl] at hx1317_0)
              (try rw [Addr.add_zero'] at hx1317_0)
              replace hx1317_0 := (HB.out.cell (World.block_lt_of_cell? W2 _ hx1317_0)).trans hx1317_0
              replace p1317 := eq_true p1317
              replace q1317 := eq_true q1317
              have p1318 : 0 ≤ (0 : Int) := (by omega)
              have q1318 : 0 < ((rd_L1 x4_1 x49_2).length : Int) := qd
              obtain ⟨ad1318, e1318, hx1318_0⟩ := Kd.at_int HR1316_0.out 0 p1318 q1318
              have hw1318_0 := hx1318_0
              (try rw [show ((0 : Int)).toNat = 0 from rfl] at hw1318_0)
              (try rw [show 0 * 1 = 0 from rfl] at hw1318_0)
              (try rw [Addr.add_zero'] at hw1318_0)
              cases e1318
              have qi1318 : (0 < (rd_L1 x4_1 x49_2).length) = True := eq_true (by omega)
              (try rw [show ((0 : Int)).toNat = 0 from rfl] at hx1318_0)
              (try rw [Addr.add_zero'] at hx1318_0)
              replace hx1318_0 := (HB.out.cell (World.block_lt_of_cell? W2 _ hx1318_0)).trans hx1318_0
              replace p1318 := eq_true p1318
              replace q1318 := eq_true q1318
              refine start_ (n := 21) (S := fun w' => w'.cell? ad1317 = some (.int .i64 (rd (rd_L1 x4_1 x42_1) 0)) ∧ w'.cell? ad1318 = some (.int .i64 (rd (rd_L1 x4_1 x49_2) 0))) (ds := []) #[false, false, false, false, false, false, false, false, false, false, false, false, false, false, false, false, false, false, false, false, false] (by kernel_rfl) rfl rfl ⟨((HB.out.cell (World.block_lt_of_cell? W2 _ hw1317_0)).trans hw1317_0), ((HB.out.cell (World.block_lt_of_cell? W2 _ hw1318_0)).trans hw1318_0)⟩ (fun hHeld => ?_); refine with_tabW spec_StairB.tab18 spec_StairB.bits18 (fun HT_ HW_ => ?_)
              generalize wr.drew = w36 at HO_1315000 BK1310 BK1314 HB hx1317_0 hx1318_0 hHeld ⊢
              refine pure_ (i := 0) (N := some 54) (v := ?_) (a' := ?_) #[true, false, false, false, false, false, false, false, false, false, false, false, false, false, false, false, false, false, false, false, false] rfl rfl (any_of HT_.out (by kernel_rfl)) (fun _ _ _ h => h) (Or.inl ⟨by rfl, ?_⟩) ?_ ?_
              rotate_left
              ·intro w'
               go_simp
               with_reducible rfl
              rotate_left
              ·exact qP
              refine pure_ (i := 1) (N := some 55) (v := ?_) (a' := ?_) #[true, true, false, false, false, false, false, false, false, false, false, false, false, false, false, false, false, false, false, false, false] rfl rfl (any_of HT_.out (by kernel_rfl)) (fun _ _ _ h => h) (Or.inl ⟨by rfl, ?_⟩) ?_ ?_
              rotate_left
              ·intro w'
               go_simp
               with_reducible rfl
              rotate_left
              ·exact qP
              refine pure_ (i := 2) (N := some 56) (v := ?_) (a' := ?_) #[true, true, true, false, false, false, false, false, false, false, false, false, false, false, false, false, false, false, false, false, false] rfl rfl (any_of HT_.out (by kernel_rfl)) (fun _ _ _ h => h) (Or.inl ⟨by rfl, ?_⟩) ?_ ?_
              rotate_left
              ·intro w'
               go_simp
               with_reducible rfl
              rotate_left
              ·exact qP
              refine pure_ (i := 3) (N := some 57) (v := ?_) (a' := ?_) #[true, true, true, true, false, false, false, false, false, false, false, false, false, false, false, false, false, false, false, false, false] rfl rfl (any_of HT_.out (by kernel_rfl)) (fun _ _ _ h => h) (Or.inl ⟨by rfl, ?_⟩) ?_ ?_
              rotate_left
              ·intro w'
               go_simp
               with_reducible rfl
              rotate_left
              ·exact qP
              refine pure_ (i := 4) (N := some 58) (v := ?_) (a' := ?_) #[true, true, true, true, true, false, false, false, false, false, false, false, false, false, false, false, false, false, false, false, false] rfl rfl (any_of HT_.out (by kernel_rfl)) (fun _ _ _ h => h) (Or.inl ⟨by rfl, ?_⟩) ?_ ?_
              rotate_left
              ·intro w'
               go_simp
               with_reducible rfl
              rotate_left
              ·exact qP
              refine pure_ (i := 5) (N := some 59) (v := ?_) (a' := ?_) #[true, true, true, true, true, true, false, false, false, false, false, false, false, false, false, false, false, false, false, false, false] rfl rfl (any_of HT_.out (by kernel_rfl)) (fun _ _ _ h => h) (Or.inl ⟨by rfl, ?_⟩) ?_ ?_
              rotate_left
              ·intro w'
               go_simp
               with_reducible rfl
              rotate_left
              ·exact qP
              refine pure_ (i := 7) (N := some 61) (v := ?_) (a' := ?_) #[true, true, true, true, true, true, false, true, false, false, false, false, false, false, false, false, false, false, false, false, false] rfl rfl (any_of HT_.out (by kernel_rfl)) (fun _ _ _ h => h) (Or.inl ⟨by rfl, ?_⟩) ?_ ?_
              rotate_left
              ·intro w'
               go_simp
               with_reducible rfl
              rotate_left
              ·exact qP
              refine pure_ (i := 8) (N := some 62) (v := ?_) (a' := ?_) #[true, true, true, true, true, true, false, true, true, false, false, false, false, false, false, false, false, false, false, false, false] rfl rfl (any_of HT_.out (by kernel_rfl)) (fun _ _ _ h => h) (Or.inl ⟨by rfl, ?_⟩) ?_ ?_
              rotate_left
              ·intro w'
               go_simp
               with_reducible rfl
              rotate_left
              ·exact qP
              refine take_ (i := 6) (N := some 60) (v := ?_) (a' := ?_) #[true, true, true, true, true, true, true, true, true, false, false, false, false, false, false, false, false, false, false, false, false] rfl rfl (take_ofW HT_.out HW_.out (by kernel_rfl)) (fun _ _ _ h => h) (Or.inl ⟨by rfl, ?_⟩) hHeld ?_ ?_
              rotate_left
              ·rintro w' ⟨s0, s1⟩
               go_simp
               with_reducible rfl
              rotate_left
              ·exact qP
              refine take_ (i := 9) (N := some 63) (v := ?_) (a' := ?_) #[true, true, true, true, true, true, true, true, true, true, false, false, false, false, false, false, false, false, false, false, false] rfl rfl (take_ofW HT_.out HW_.out (by kernel_rfl)) (fun _ _ _ h => h) (Or.inl ⟨by rfl, ?_⟩) hHeld ?_ ?_
              rotate_left
              ·rintro w' ⟨s0, s1⟩
               go_simp
               with_reducible rfl
              rotate_left
              ·exact qP
              refine pure_ (i := 10) (N := some 64) (v := ?_) (a' := ?_) #[true, true, true, true, true, true, true, true, true, true, true, false, false, false, false, false, false, false, false, false, false] rfl rfl (any_of HT_.out (by kernel_rfl)) (fun _ _ _ h => h) (Or.inl ⟨by rfl, ?_⟩) ?_ ?_
              rotate_left
              ·intro w'
               go_simp
               with_reducible rfl
              rotate_left
              ·exact qP
              refine pure_ (i := 11) (N := some 65) (v := ?_) (a' := ?_) #[true, true, true, true, true, true, true, true, true, true, true, true, false, false, false, false, false, false, false, false, false] rfl rfl (any_of HT_.out (by kernel_rfl)) (fun _ _ _ h => h) (Or.inl ⟨by rfl, ?_⟩) ?_ ?_
              rotate_left
              ·intro w'
               go_simp
               with_reducible rfl
              rotate_left
              ·exact qP
              refine pure_ (i := 12) (N := some 66) (v := ?_) (a' := ?_) #[true, true, true, true, true, true, true, true, true, true, true, true, true, false, false, false, false, false, false, false, false] rfl rfl (any_of HT_.out (by kernel_rfl)) (fun _ _ _ h => h) (Or.inl ⟨by rfl, ?_⟩) ?_ ?_
              rotate_left
              ·intro w'
               go_simp
               with_reducible rfl
              rotate_left
              ·exact qP
              refine pure_ (i := 13) (N := some 67) (v := undef) (a' := ?_) #[true, true, true, true, true, true, true, true, true, true, true, true, true, true, false, false, false, false, false, false, false] rfl rfl (any_of HT_.out (by kernel_rfl)) (fun _ _ _ h => h) (Or.inr ⟨by rfl, rfl⟩) ?_ ?_
              rotate_left
              ·exact qP
              refine pure_ (i := 14) (N := some 68) (v := undef) (a' := ?_) #[true, true, true, true, true, true, true, true, true, true, true, true, true, true, true, false, false, false, false, false, false] rfl rfl (any_of HT_.out (by kernel_rfl)) (fun _ _ _ h => h) (Or.inr ⟨by rfl, rfl⟩) ?_ ?_
              rotate_left
              ·exact qP
              refine pure_ (i := 15) (N := some 69) (v := undef) (a' := ?_) #[true, true, true, true, true, true, true, true, true, true, true, true, true, true, true, true, false, false, false, false, false] rfl rfl (any_of HT_.out (by kernel_rfl)) (fun _ _ _ h => h) (Or.inr ⟨by rfl, rfl⟩) ?_ ?_
              rotate_left
              ·exact qP
              refine pure_ (i := 16) (N := some 70) (v := undef) (a' := ?_) #[true, true, true, true, true, true, true, true, true, true, true, true, true, true, true, true, true, false, false, false, false] rfl rfl (any_of HT_.out (by kernel_rfl)) (fun _ _ _ h => h) (Or.inr ⟨by rfl, rfl⟩) ?_ ?_
              rotate_left
              ·exact qP
              refine pure_ (i := 17) (N := some 71) (v := undef) (a' := ?_) #[true, true, true, true, true, true, true, true, true, true, true, true, true, true, true, true, true, true, false, false, false] rfl rfl (any_of HT_.out (by kernel_rfl)) (fun _ _ _ h => h) (Or.inr ⟨by rfl, rfl⟩) ?_ ?_
              rotate_left
              ·exact qP
              refine pure_ (i := 18) (N := some 72) (v := undef) (a' := ?_) #[true, true, true, true, true, true, true, true, true, true, true, true, true, true, true, true, true, true, true, false, false] rfl rfl (any_of HT_.out (by kernel_rfl)) (fun _ _ _ h => h) (Or.inr ⟨by rfl, rfl⟩) ?_ ?_
              rotate_left
              ·exact qP
              refine pure_ (i := 19) (N := some 73) (v := undef) (a' := ?_) #[true, true, true, true, true, true, true, true, true, true, true, true, true, true, true, true, true, true, true, true, false] rfl rfl (any_of HT_.out (by kernel_rfl)) (fun _ _ _ h => h) (Or.inr ⟨by rfl, rfl⟩) ?_ ?_
              rotate_left
              ·exact qP
              refine pure_ (i := 20) (N := some 74) (v := ?_) (a' := ?_) #[true, true, true, true, true, true, true, true, true, true, true, true, true, true, true, true, true, true, true, true, true] rfl rfl (any_of HT_.out (by kernel_rfl)) (fun _ _ _ h => h) (Or.inl ⟨by rfl, ?_⟩) ?_ ?_
              rotate_left
              ·intro w'
               go_simp
               with_reducible rfl
              rotate_left
              ·exact qP
              refine done_ (done_of HT_.out (by kernel_rfl)) ?_
              try go_wp2
              go_roundg k2
              case measure => have := HK1.out; have := HK2.out; omega
              case rel => exact ⟨(wrap64 (x49_2 + 1)), (x1315000_2), (u1315000), qe, H', ⟨by have := HK1.out; have := HK2.out; omega⟩, ⟨qR HO_1315000.out⟩, ⟨qb BK1310.out⟩, ⟨qb BK1314.out⟩, ⟨qB⟩⟩
           ·rw [if_neg c15] at H
            have c15b0 := decide_eq_false c15
            clear c15
            have H' := am H
            clear H
            go_wp2
            go_roundg k2
            case measure => have := HK1.out; have := HK2.out; omega
            case rel => exact ⟨(wrap64 (x42_1 + 1)), (x1315000_2), (u1315000), qe, H', ⟨by have := HK1.out; have := HK2.out; omega⟩, ⟨qR HO_1315000.out⟩, ⟨qb BK1310.out⟩, ⟨qb BK1314.out⟩, ⟨qB⟩⟩
        ·rw [if_neg c12] at H
         have c12b0 := decide_eq_false c12
         clear c12
         simp only [Option.some.injEq, Prod.mk.injEq] at H
         obtain ⟨rfl, rfl⟩ := H
         have hnb37 := NB1314_1310.out
         have hnc37 := NB1310_1314.out
         have hcz38_0 := qz wr BK1314.out
         have hfz38_0 := blk_frozen BK1314.out 0
         obtain ⟨Ao39, co39, eo39⟩ := Kd.R_slice HO_1315000.out
         subst eo39
         have hcz40_0 := qz wr BK1310.out
         have hfz40_0 := blk_frozen BK1310.out 0
         go_wp2
         refine bodyPost_ret (results_ct rfl _ _ gb1310 26 #[.slice Ao39 x1315000_1.length co39] (0, 0) _ rfl (by (with_reducible repeat (first | refine blk_drewN ?_ _ | refine blk_drew ?_ | refine blk_alloc ?_ _)); refine blk_put (cs := #[.slice none 0 0]) ?_ 0 _ rfl; refine qb ?_; exact BK1310.out) Try.underlying26 rfl (by kernel_rfl)) rfl ?_
         exact ⟨_, rfl, Kd.R_lower (qR (Kd.R_mono (Kd.R_far (p := ⟨gb1310, 0, none⟩) (Kd.R_types HO_1315000.out BK1310.out (by decide)) (fun _ hk => hk.2) (.slice Ao39 x1315000_1.length co39)) (fun _ hk => trivial))) HBW.out.size, below_set (by repeat (first | (with_reducible first | exact (HBW.out.trans (HB.out.mono HBW.out.size)) | apply below_alloc | apply pw_below_drewN | apply below_drew1) | exact (HBW.out.trans (HB.out.mono HBW.out.size)))) GE1310.out⟩
     ·rw [if_neg c3] at H
      exact absurd H (by simp)
end Go.Proofs.Ytmbojobkiainlaa.F
end
