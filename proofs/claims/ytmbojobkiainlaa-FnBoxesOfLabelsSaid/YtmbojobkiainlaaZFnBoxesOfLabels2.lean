/- Part 2 of the texts below the row of FnBoxesOfLabels: printed functions with their contracts, and plain lemmas. No condition. -/
import Derived.Test.YtmbojobkiainlaaZFnBoxesOfLabels1
import Derived.Test.YtmbojobkiainlaaProg
import Derived.Below
import Derived.Deep.Draws
import Derived.Deep.AppendLies
import Derived.Maps.AppendAt
import Derived.OwnWalk
import Derived.Laws.BytesArg
import Derived.Laws.MakeOwn
import Derived.Laws.OwnMore
import Derived.Deep.OwnRows
import Derived.Tactics
import Derived.Lib.ConvBytes
import Derived.Laws.Slices
import Derived.WalkKit
import Derived.KernelRfl
import Derived.RowKit3
import Derived.Deep.LoopGhost
import Derived.Deep.QuietTactic
import Derived.BigQuiet
import Derived.WideLaws
import Derived.Deep.DeepCutAuto
import Derived.Deep.CutBlock
import Derived.Deep.RegionHeld3
import Derived.Laws.Rows
import Derived.Lib.AppendStr
import Derived.ArgAppend
import Derived.Laws.IdiomCopy
import Derived.OrdersHeld
import Derived.Laws.BitsLemmas
import Derived.RowKit
section
namespace Go.Proofs.Ytmbojobkiainlaa.F
open Go.RowKit Go.Proofs.YtmbojobkiainlaaW.PrintWords Go.Proofs.YtmbojobkiainlaaW.PrintLast Go.Proofs.YtmbojobkiainlaaW.PrintMore
attribute [local go_sem] max2_int min2_int max_two min_two max_three min_three max_four min_four
set_option linter.unusedVariables false
set_option linter.unusedSimpArgs false
def errW : Option Int → Value
  | none => .nilIface
  | some c => .iface 0 (.int .i64 c)
theorem errW_none : errW none = .nilIface := rfl
theorem errW_some (c : Int) : errW (some c) = .iface 0 (.int .i64 c) := rfl

theorem info3 : (Try.prog.info? 3).map (fun i => (i.zero, i.size, i.bytes)) = some (some (.int .i64 0), 1, 8) := by kernel_rfl
theorem info24 : (Try.prog.info? 24).map (fun i => (i.zero, i.size, i.bytes)) = some (some (.slice none 0 0), 1, 24) := by kernel_rfl
-- the values' own types
def rd_L1 (xs : List (List Int)) (i : Int) : (List Int) := xs.getD i.toNat ([] : List Int)
theorem at_L1 {w : World} {A : Option Addr} {n : Nat} {xs : List (List Int)} (h : Kd.C (Kd.slice 3 (Kd.int .i64)) w A n xs) (i : Int) (h0 : 0 ≤ i) (h1 : i < n) : ∃ ad A0 c0, A = some ad ∧ w.cell? (ad.add i.toNat) = some (.slice A0 (rd_L1 xs i).length c0) ∧ (rd_L1 xs i).length ≤ c0 ∧ (Kd.int .i64).C w A0 (rd_L1 xs i).length (rd_L1 xs i) := by
  obtain ⟨ad, c, e, _, hK, hc0⟩ := Kd.C_get h ([] : List Int) i h0 h1
  have hc : ∀ j u, c[j]? = some u → w.cell? (ad.add (i.toNat * 1 + j)) = some u := hc0
  obtain ⟨A0, c0, rfl, l0, g0⟩ := hK
  exact ⟨ad, A0, c0, e, by have hq := hc 0 _ rfl; rwa [Nat.mul_one, Nat.add_zero] at hq, l0, g0⟩

/-! #### struct type 26 -/
structure S26 where
  f0 : (List Int)
def z26 : S26 := ⟨([] : List Int)⟩
def k26 : Kd S26 := Kd.iso (Kd.slice 3 (Kd.int .i64)) (fun x : S26 => x.f0)
theorem k26_open {w : World} {x : S26} {cs : List Value} (h : k26.K w x cs) : ∃ A0 c0, cs = [.slice A0 x.f0.length c0] ∧ x.f0.length ≤ c0 ∧ (Kd.int .i64).C w A0 x.f0.length x.f0 := by
  obtain ⟨A0, c0, rfl, l0, g0⟩ := h
  exact ⟨A0, c0, rfl, l0, g0⟩
theorem k26_openM {w : World} {base : Nat} {ok : Nat → Prop} {x : S26} {cs : List Value} (h : k26.M w base ok x cs) : ∃ v0, cs = [v0] ∧ (Kd.int .i64).R 3 w base ok v0 x.f0 := by
  obtain ⟨v0, rfl, g0⟩ := h
  exact ⟨v0, rfl, g0⟩
theorem k26_mk (w : World) (x : S26) {A0 : Option Addr} {c0 : Nat} (l0 : x.f0.length ≤ c0) (g0 : (Kd.int .i64).C w A0 x.f0.length x.f0) : k26.K w x [.slice A0 x.f0.length c0] := ⟨A0, c0, rfl, l0, g0⟩
theorem k26_mkM (w : World) (base : Nat) (ok : Nat → Prop) (x : S26) {v0 : Value} (g0 : (Kd.int .i64).R 3 w base ok v0 x.f0) : k26.M w base ok x [v0] := ⟨v0, rfl, g0⟩
theorem k26_openF {W : World} {ok : Nat → Prop} {x : S26} {cs : List Value} (h : Kd.FK k26 W ok x cs) : ∃ A0 c0, cs = [.slice A0 x.f0.length c0] ∧ x.f0.length ≤ c0 ∧ Kd.F (Kd.int .i64) W ok A0 x.f0.length x.f0 := by
  obtain ⟨A0, c0, rfl, l0, _⟩ := k26_open (Kd.FK_now h)
  exact ⟨A0, c0, rfl, l0, (fun W' hW => by obtain ⟨A0_, c0_, he, l0_, g0_⟩ := k26_open (h W' hW); injection (Option.some.inj (show some (Value.slice A0 x.f0.length c0) = some (Value.slice A0_ x.f0.length c0_) from congrArg (fun l => l[0]?) he)) with ha_ _ _; rw [ha_]; exact g0_)⟩
theorem k26_mkF (W : World) (ok : Nat → Prop) (x : S26) {A0 : Option Addr} {c0 : Nat} (l0 : x.f0.length ≤ c0) (g0 : Kd.F (Kd.int .i64) W ok A0 x.f0.length x.f0) : Kd.FK k26 W ok x [.slice A0 x.f0.length c0] := fun W2 hW => k26_mk W2 x l0 (g0 W2 hW)
def rd_T26 (xs : List S26) (i : Int) : S26 := xs.getD i.toNat z26
theorem at_T26 {w : World} {A : Option Addr} {n : Nat} {xs : List S26} (h : Kd.C k26 w A n xs) (i : Int) (h0 : 0 ≤ i) (h1 : i < n) : ∃ ad A0 c0, A = some ad ∧ w.cell? (ad.add i.toNat) = some (.slice A0 (rd_T26 xs i).f0.length c0) ∧ (rd_T26 xs i).f0.length ≤ c0 ∧ (Kd.int .i64).C w A0 (rd_T26 xs i).f0.length (rd_T26 xs i).f0 := by
  obtain ⟨ad, c, e, _, hK, hc0⟩ := Kd.C_get h z26 i h0 h1
  have hc : ∀ j u, c[j]? = some u → w.cell? (ad.add (i.toNat * 1 + j)) = some u := hc0
  obtain ⟨A0, c0, rfl, l0, g0⟩ := k26_open hK
  exact ⟨ad, A0, c0, e, by have hq := hc 0 _ rfl; rwa [Nat.mul_one, Nat.add_zero] at hq, l0, g0⟩

def rd_L5 (xs : List (List Int)) (i : Int) : (List Int) := xs.getD i.toNat ([] : List Int)
theorem at_L5 {w : World} {A : Option Addr} {n : Nat} {xs : List (List Int)} (h : Kd.C (Kd.slice 5 (Kd.int .u8)) w A n xs) (i : Int) (h0 : 0 ≤ i) (h1 : i < n) : ∃ ad A0 c0, A = some ad ∧ w.cell? (ad.add i.toNat) = some (.slice A0 (rd_L5 xs i).length c0) ∧ (rd_L5 xs i).length ≤ c0 ∧ (Kd.int .u8).C w A0 (rd_L5 xs i).length (rd_L5 xs i) := by
  obtain ⟨ad, c, e, _, hK, hc0⟩ := Kd.C_get h ([] : List Int) i h0 h1
  have hc : ∀ j u, c[j]? = some u → w.cell? (ad.add (i.toNat * 1 + j)) = some u := hc0
  obtain ⟨A0, c0, rfl, l0, g0⟩ := hK
  exact ⟨ad, A0, c0, e, by have hq := hc 0 _ rfl; rwa [Nat.mul_one, Nat.add_zero] at hq, l0, g0⟩

def rd_L6 (xs : List (List (List Int))) (i : Int) : (List (List Int)) := xs.getD i.toNat ([] : List (List Int))
theorem at_L6 {w : World} {A : Option Addr} {n : Nat} {xs : List (List (List Int))} (h : Kd.C (Kd.slice 24 (Kd.slice 3 (Kd.int .i64))) w A n xs) (i : Int) (h0 : 0 ≤ i) (h1 : i < n) : ∃ ad A0 c0, A = some ad ∧ w.cell? (ad.add i.toNat) = some (.slice A0 (rd_L6 xs i).length c0) ∧ (rd_L6 xs i).length ≤ c0 ∧ (Kd.slice 3 (Kd.int .i64)).C w A0 (rd_L6 xs i).length (rd_L6 xs i) := by
  obtain ⟨ad, c, e, _, hK, hc0⟩ := Kd.C_get h ([] : List (List Int)) i h0 h1
  have hc : ∀ j u, c[j]? = some u → w.cell? (ad.add (i.toNat * 1 + j)) = some u := hc0
  obtain ⟨A0, c0, rfl, l0, g0⟩ := hK
  exact ⟨ad, A0, c0, e, by have hq := hc 0 _ rfl; rwa [Nat.mul_one, Nat.add_zero] at hq, l0, g0⟩

/-- What the printed proofs say over and over. -/
theorem qR {α : Type} {d : Kd α} {e base : Nat} {ok : Nat → Prop} {w w' : World} {v : Value} {xs : List α} (h0 : d.R e w base ok v xs) (hb : Below w.heap.size w w' := by with_reducible repeat (first | exact Below.refl _ _ | apply below_alloc | apply pw_below_drewN | apply below_drew1)) : d.R e w' base ok v xs := Kd.R_below h0 hb
theorem qS {α : Type} {d : Kd α} {e base : Nat} {ok : Nat → Prop} {w w' : World} {v : Value} {xs : List α} (h0 : Kd.S d e w base ok v xs) (hb : Below w.heap.size w w' := by with_reducible repeat (first | exact Below.refl _ _ | apply below_alloc | apply pw_below_drewN | apply below_drew1)) : Kd.S d e w' base ok v xs := Kd.S_below h0 hb
theorem qC {α : Type} {d : Kd α} {w w' : World} {A : Option Addr} {n : Nat} {xs : List α} (h0 : d.C w A n xs) (hb : Below w.heap.size w w' := by with_reducible repeat (first | exact Below.refl _ _ | apply below_alloc | apply pw_below_drewN | apply below_drew1)) : d.C w' A n xs := Kd.C_below h0 hb
theorem qb {g : Nat} {o : Obj} {w w' : World} (h0 : w.heap[g]? = some o) (hb : Below w.heap.size w w' := by with_reducible repeat (first | exact Below.refl _ _ | apply below_alloc | apply pw_below_drewN | apply below_drew1)) : w'.heap[g]? = some o := blk_below h0 hb
theorem qBl {B : Nat} {w0 w1 w : World} (_ : Below B w0 w1) (h : Below B w0 w) : Below B w0 w := h
theorem qB {B : Nat} {w0 w : World} (h : Below B w0 w := by first | (with_reducible exact HB.out) | (refine qBl HB.out ?_; repeat (first | (with_reducible first | exact HB.out | apply below_alloc | apply pw_below_drewN | apply below_drew1) | (refine below_set ?_ (by apply Aside0.out; assumption)) | (refine below_set ?_ (Nat.le_trans HL.out (by apply Aside0.out; assumption))) | (refine below_set ?_ (IsS67.ge HI0.out)) | exact HB.out))) : Below B w0 w := h
theorem qd {p : Prop} [Decidable p] (h : decide p = true := by first | (with_reducible assumption) | assumption) : p := of_decide_eq_true h
theorem qe {α : Sort _} {a b : α} (h : a = b := by first | rfl | (simp; done) | (simp [*]; done)) : a = b := h
theorem qr {α : Sort _} {a b : α} (h : a = b := by first | rfl | (simp [errW_none, errW_some] <;> rfl) | (simp [*, errW_none, errW_some] <;> rfl)) : a = b := h
section
variable {P : Program} {ops : Array Oper} {rest : List Oper} {o : Oper} {a : Act} {Q : Exit → Act → World → Prop}
theorem qx {W : World} {N : Tmp} {cs : Array Value} {t : TypeId} (h : ∀ g, g = W.heap.size → ∀ w1, w1.heap[g]? = some (.cells cs t (0, 0)) → Below W.heap.size W w1 → wpList P ops Q rest (a.put o.dst (.pointer (some ⟨g, 0, none⟩))) w1)
    (hgd : o.guard = none := by rfl) (hd : o.dst = some N := by rfl) (hrun : (execOp a.eval o).run P W = .ok (.value (.pointer (some ⟨W.heap.size, 0, none⟩))) (W.alloc (.cells cs t (0, 0))) := by first | (go_simp; done) | (go_simp; rfl)) : wpList P ops Q (o :: rest) a W := box_event hgd hd hrun h
theorem gL {w : World} (N : Option Tmp) {f : FuncId} {fn : Func} {az : Array Operand} {ts : Array TypeId} (hf : P.funcs[f]? = some fn) (args : Array Value)
 (h : Calls P f args w fun e w' => ∃ v, e = .returned v ∧ wpList P ops Q rest (a.put N v) w') (hd : o.dst = N := by rfl) (hg : o.guard = none := by rfl) (hn : (fn.name == "runtime.NumGoroutine") = false := by kernel_rfl) (hb : fn.body.isSome = true := by rfl)
 (hop : o.op = .call { callee := .value (.func f), args := az, argTypes := ts } := by rfl) (hargs : az.map a.eval = args := by (try simp only [List.map_toArray, List.map_cons, List.map_nil]); first | done | rfl | (simp only [List.length_drop, List.length_take]; rfl)) : wpList P ops Q (o :: rest) a w := goesL_ N hd hg hf hn hb args hop hargs h
end
theorem qP {α : Sort _} {a b : α} (h : a = b := by simp only [Act.put, List.setIfInBounds_toArray, List.set_cons_zero, List.set_cons_succ, i64_w, i32_w]; rfl) : a = b := h
theorem am {p : Prop} (h : p) : Aside0 p := ⟨h⟩
theorem qz (w : World) {g : Nat} {t : TypeId} {x : Value} (h : w.heap[g]? = some (.cells #[x] t (0, 0))) : w.cell? ⟨g, 0, none⟩ = some x := (blk_cell h 0).trans rfl
theorem qg (w : World) {W : World} {g : Nat} (hg : g = W.heap.size) (h : Below w.heap.size w W := by first | (with_reducible exact HB.out) | (refine qBl HB.out ?_; repeat (first | (with_reducible first | exact HB.out | apply below_alloc | apply pw_below_drewN | apply below_drew1) | (refine below_set ?_ (by apply Aside0.out; assumption)) | (refine below_set ?_ (Nat.le_trans HL.out (by apply Aside0.out; assumption))) | (refine below_set ?_ (IsS67.ge HI0.out)) | exact HB.out))) : w.heap.size ≤ g := hg ▸ below_size h
theorem qA {α : Sort _} {a b : α} (h : a = b := by (try simp only [List.map_toArray, List.map_cons, List.map_nil]); first | done | rfl | (simp only [List.length_drop, List.length_take]; rfl)) : a = b := h
end Go.Proofs.Ytmbojobkiainlaa.F
end

section
namespace Go.Proofs.Ytmbojobkiainlaa.F
open Go.RowKit Go.Proofs.YtmbojobkiainlaaW.PrintWords Go.Proofs.YtmbojobkiainlaaW.PrintLast Go.Proofs.YtmbojobkiainlaaW.PrintMore
attribute [local go_sem] max2_int min2_int max_two min_two max_three min_three max_four min_four
set_option linter.unusedVariables false
set_option linter.unusedSimpArgs false
def lit_rectangle.f (a0 : Int) (a1 : Int) (a2 : Int) : Option (Bool) := if a2 = 0 then (none) else (if (wrap64 (Int.tdiv a0 a2)) ≤ (wrap64 (Int.tdiv a1 a2)) then (some (decide ((Int.tmod a0 a2) ≤ (Int.tmod a1 a2)))) else (some false))
set_option maxHeartbeats 8000000 in
set_option maxRecDepth 100000 in
theorem lit_rectangle.calls (g0_ : Nat) (a0 : Int) (a1 : Int) (a2 : Int) (r : Bool) (w : World) (hcap0 : w.cell? ⟨g0_, 0, none⟩ = some (.int .i64 a2)) (h : lit_rectangle.f a0 a1 a2 = some r) :
 Calls Try.prog 143 #[.int .i64 a0, .int .i64 a1, .pointer (some ⟨g0_, 0, none⟩)] w fun e w' => e = .returned (.bool r) ∧ Drawn0 w w' := by
 have H := h
 unfold lit_rectangle.f at H
 clear h
 by_cases c4 : a2 = 0
 ·rw [if_pos c4] at H
  exact absurd H (by simp)
 ·rw [if_neg c4] at H
  have c4b0 : (a2 == 0) = false := beq_eq_false_iff_ne.mpr c4
  have c4b1 : (a2 != 0) = true := bne_iff_ne.mpr c4
  by_cases c5 : (wrap64 (Int.tdiv a0 a2)) ≤ (wrap64 (Int.tdiv a1 a2))
  ·rw [if_pos c5] at H
   have c5b0 := decide_eq_true c5
   clear c5
   obtain rfl := Option.some.inj H
   go_enter Try.func143, Try.ntmps143
   go_wp2
   repeat (go_quiet (fail); try go_wp2)
   go_ret
   exact ⟨by first | rfl | (simp; done) | (simp [*]; done), by repeat (first | exact Drawn0.refl _ | apply Drawn0.step)⟩
  ·rw [if_neg c5] at H
   have c5b0 := decide_eq_false c5
   clear c5
   obtain rfl := Option.some.inj H
   go_enter Try.func143, Try.ntmps143
   go_wp2
   repeat (go_quiet (fail); try go_wp2)
   go_ret
   exact ⟨by first | rfl | (simp; done) | (simp [*]; done), by repeat (first | exact Drawn0.refl _ | apply Drawn0.step)⟩
mutual
def made_rectangle.l0 (F : Int → Int → Option Bool) : Nat → Int → Int → List Int → Option (List Int)
 | 0, _, _, _ => none
 | k + 1, x11, x12, x1202000 => if x12 < x11 then (made_rectangle.l1 F k x12 x11 x12 x12 0 x1202000) else (some x1202000)
def made_rectangle.l1 (F : Int → Int → Option Bool) : Nat → Int → Int → Int → Int → Int → List Int → Option (List Int)
 | 0, _, _, _, _, _, _ => none
 | k + 1, x6, x11, x12, x15, x16, x1202000 => if x16 < x15 then ((F x16 x6).bind fun t1202 => (if t1202 = true then (if 0 ≤ x6 then (if x6 < (x1202000.length : Int) then (if 0 ≤ x16 then (made_rectangle.l1 F k x6 x11 x12 x15 (wrap64 (x16 + 1)) (x1202000.set (x6 : Int).toNat (Go.bits .or .i64 (rd x1202000 x6) (shl .i64 1 x16)))) else (none)) else (none)) else (none)) else (made_rectangle.l1 F k x6 x11 x12 x15 (wrap64 (x16 + 1)) x1202000))) else (made_rectangle.l0 F k x11 (wrap64 (x12 + 1)) x1202000)
end
def made_rectangle.f (F : Int → Int → Option Bool) (k : Nat) (a0 : Int) : Option (List Int) := if 0 ≤ a0 then (if (a0 : Int).toNat ≤ 35184372088832 then (made_rectangle.l0 F k a0 0 (List.replicate (a0 : Int).toNat 0)) else (none)) else (none)
theorem made_rectangle.mono_l (F : Int → Int → Option Bool) : ∀ k, (∀ y0 y1 y2, LeO (made_rectangle.l0 F k y0 y1 y2) (made_rectangle.l0 F (k + 1) y0 y1 y2)) ∧ (∀ y0 y1 y2 y3 y4 y5, LeO (made_rectangle.l1 F k y0 y1 y2 y3 y4 y5) (made_rectangle.l1 F (k + 1) y0 y1 y2 y3 y4 y5))
 | 0 => ⟨fun _ _ _ r h => by simp [made_rectangle.l0] at h, fun _ _ _ _ _ _ r h => by simp [made_rectangle.l1] at h⟩
 | k + 1 => by
  obtain ⟨ih0, ih1⟩ := made_rectangle.mono_l F k
  refine ⟨?_, ?_⟩
  ·intro y0 y1 y2
   unfold made_rectangle.l0
   repeat' first
   | (with_reducible exact LeO.refl _)
   | (with_reducible exact LeO.none _)
   | (with_reducible refine LeO.ite ?_ ?_)
   | (with_reducible refine LeO.bind ?_ (fun _ => ?_))
   | exact ih0 _ _ _
   | exact ih1 _ _ _ _ _ _
   | exact LeO.none _
   | refine LeO.ite ?_ ?_
   | refine LeO.bind ?_ (fun _ => ?_)
  ·intro y0 y1 y2 y3 y4 y5
   unfold made_rectangle.l1
   repeat' first
   | (with_reducible exact LeO.refl _)
   | (with_reducible exact LeO.none _)
   | (with_reducible refine LeO.ite ?_ ?_)
   | (with_reducible refine LeO.bind ?_ (fun _ => ?_))
   | exact ih0 _ _ _
   | exact ih1 _ _ _ _ _ _
   | exact LeO.none _
   | refine LeO.ite ?_ ?_
   | refine LeO.bind ?_ (fun _ => ?_)
theorem made_rectangle.mono (F : Int → Int → Option Bool) : ∀ a0 k, LeO (made_rectangle.f F k a0) (made_rectangle.f F (k + 1) a0) := by
 intro a0 k
 obtain ⟨ih0, ih1⟩ := made_rectangle.mono_l F k
 unfold made_rectangle.f
 repeat' first
  | (with_reducible exact LeO.refl _)
  | (with_reducible exact LeO.none _)
  | (with_reducible refine LeO.ite ?_ ?_)
  | (with_reducible refine LeO.bind ?_ (fun _ => ?_))
  | exact ih0 _ _ _
  | exact ih1 _ _ _ _ _ _
  | exact LeO.none _
  | refine LeO.ite ?_ ?_
  | refine LeO.bind ?_ (fun _ => ?_)
def made_rectangle.T9 : Bool × List (List Nat × List Nat) := (true, [([], []), ([0], [0]), ([], []), ([1, 2], [1, 2]), ([3], [3]), ([], []), ([5], [5]), ([4, 6], [4, 6]), ([1, 2, 0, 1, 2, 3, 4, 5, 6, 7], [1, 2]), ([8, 7, 0, 1, 2, 3, 4, 5, 6, 7], [7, 8])])
def made_rectangle.B9 : List Nat := [0, 1, 0, 7, 15, 0, 32, 127, 255, 511]
theorem made_rectangle.tab9 : rtab .any (opsOf Try.f134 9) = made_rectangle.T9 := by kernel_rfl
theorem made_rectangle.bits9 : waitsOk made_rectangle.T9.2 made_rectangle.B9 = true := by kernel_rfl
set_option maxHeartbeats 8000000 in
set_option maxRecDepth 100000 in
theorem made_rectangle.calls (F : Int → Int → Option Bool) (g0_ : Nat) (k : Nat) (a0 : Int) (r : List Int) (w : World) (HF : Aside0 (∀ (x0_ : Int) (x1_ : Int) (r_ : Bool) (W : World), F x0_ x1_ = some r_ → Below w.heap.size w W → Calls Try.prog 143 #[.int .i64 x0_, .int .i64 x1_, .pointer (some ⟨g0_, 0, none⟩)] W fun e w' => e = .returned (.bool r_) ∧ Drawn0 W w')) (h : made_rectangle.f F k a0 = some r) :
 Calls Try.prog 134 #[.int .i64 a0, .func (.func 143) #[] #[.pointer (some ⟨g0_, 0, none⟩)]] w fun e w' => ∃ v0_ : Value, e = .returned (.agg #[v0_]) ∧ Kd.R (Kd.int .i64) 3 w' w.heap.size (fun _ => True) v0_ r ∧ Below w.heap.size w w' := by
 have hu26 := Try.underlying26
 have HB := am (Below.refl w.heap.size w)
 have H := h
 unfold made_rectangle.f at H
 clear h
 by_cases c3 : 0 ≤ a0
 ·rw [if_pos c3] at H
  have c3b0 := eq_true c3
  have c3b1 := decide_eq_true c3
  clear c3
  by_cases c4 : (a0 : Int).toNat ≤ 35184372088832
  rotate_left
  ·rw [if_neg c4] at H
   exact absurd H (by simp)
  rw [if_pos c4] at H
  have c4b0 := eq_true c4
  have c4b1 := decide_eq_true c4
  clear c4
  obtain ⟨y1198, hy1198⟩ : ∃ y_ : List Int, y_ = (List.replicate (a0 : Int).toNat 0) := ⟨_, rfl⟩
  first | rw [← hy1198] at H | (have H2_ := (Option.bind_some _ _).symm.trans H; clear H; have H := H2_; clear H2_; rw [← hy1198] at H)
  have Ny1198 := am hy1198
  clear hy1198
  have H' := am H
  clear H
  go_enter Try.func134, Try.ntmps134
  go_wp2_with (first | ((with_reducible refine gate_dst (N := 4) rfl ?_); refine qx (N := 4) (cs := #[.slice none 0 0]) (t := 26) ?_; intro gb1197 hg w5 hbox hb; have n0_ := am (below_step qB hb); have BK1197 := am (hbox); have GW1197 := am (qg w hg); have GE1197 := am (qg w hg); clear HB; have HB := n0_; clear n0_; clear hb hbox hg) | ((with_reducible refine gate_dst (N := 9) rfl ?_); refine Kd.R_make (Kd.int .i64) _ 3 rfl (N := 9) rfl 24 _ _ rfl a0 rfl rfl Try.underlying24 (.int .i64 0) 8 info3 rfl (by decide) (by omega) 0 (ok := fun _ => True) (okp := fun _ => True) rfl (fun _ hk => hk) trivial (qd) (Nat.le_trans (Nat.mul_le_mul_right _ (qd : a0.toNat ≤ 35184372088832)) (by omega)) (Below.refl _ _) (Nat.le_refl _) ?_; intro v1199 w6 ho7 hb hg_ hnew_; clear hg_ hnew_; (first | rw [← Ny1198.out] at ho7 | (simp only [Int.reduceToNat] at ho7; rw [← Ny1198.out] at ho7)); have HO1200 := am (Kd.R_lower ho7 (below_size qB)); replace BK1197 := am (blk_below (g := gb1197) (o := .cells #[.slice none 0 0] 26 (0, 0)) (qb BK1197.out) hb); replace HB := am (below_step qB hb); clear hb ho7; obtain ⟨Ao8, co8, eo8⟩ := Kd.R_slice HO1200.out; subst eo8) | ((with_reducible refine gate_dst (N := 5) rfl ?_); refine qx (N := 5) (cs := #[.slice none 0 0]) (t := 26) ?_; intro gb1201 hg w9 hbox hb; replace HO1200 := am (Kd.R_below (qR HO1200.out) hb); have n1_ := am (blk_below (g := gb1197) (o := .cells #[.slice none 0 0] 26 (0, 0)) (qb BK1197.out) hb); have n2_ := am (below_step qB hb); have BK1201 := am (hbox); have GW1201 := am (qg w hg); have GE1201 := am (qg w hg); have NB1197_1201 := am ((by rw [hg]; exact Nat.ne_of_lt (blk_lt (g := gb1197) (o := .cells #[.slice none 0 0] 26 (0, 0)) (qb BK1197.out)) : gb1197 ≠ gb1201)); have NB1201_1197 := am ((by rw [hg]; exact Nat.ne_of_gt (blk_lt (g := gb1197) (o := .cells #[.slice none 0 0] 26 (0, 0)) (qb BK1197.out)) : gb1201 ≠ gb1197)); clear BK1197 HB; have BK1197 := n1_; have HB := n2_; clear n1_ n2_; clear hb hbox hg; have hnb10 := NB1201_1197.out; have hnc10 := NB1197_1201.out; have hcz11_0 := qz w9 BK1201.out; have hfz11_0 := blk_frozen BK1201.out 0))
  go_loopg [12] k (fun kq v12 w' => ∃ (x12_1 : Int) (x1202000_1 : List Int) (u1202000 : Value), v12 = .int .i64 x12_1 ∧ Aside0 (made_rectangle.l0 F kq a0 x12_1 x1202000_1 = some r) ∧ Aside0 (kq ≤ k) ∧ Aside0 (Kd.R (Kd.int .i64) 3 w' w.heap.size (fun _ => True) u1202000 x1202000_1) ∧ Aside0 (w'.heap[gb1197]? = some (.cells #[(.slice none 0 0)] 26 (0, 0))) ∧ Aside0 (w'.heap[gb1201]? = some (.cells #[u1202000] 26 (0, 0))) ∧ Aside0 (Below w.heap.size w w'))
  case atStart => exact ⟨(0), (y1198), (.slice Ao8 y1198.length co8), qe, H', ⟨Nat.le_refl _⟩, ⟨qR (Kd.R_mono (Kd.R_far (p := ⟨gb1201, 0, none⟩) (Kd.R_types HO1200.out BK1201.out (by decide)) (fun _ hk => hk.2) (.slice Ao8 y1198.length co8)) (fun _ hk => trivial))⟩, ⟨by (with_reducible repeat (first | refine blk_drewN ?_ _ | refine blk_drew ?_ | refine blk_alloc ?_ _)); refine blk_far ?_ NB1197_1201.out _; refine qb ?_; exact BK1197.out⟩, ⟨by (with_reducible repeat (first | refine blk_drewN ?_ _ | refine blk_drew ?_ | refine blk_alloc ?_ _)); refine blk_put (cs := #[.slice none 0 0]) ?_ 0 _ rfl; refine qb ?_; exact BK1201.out⟩, ⟨qB⟩⟩
  case round =>
   clear H'
   try clear c1
   try clear p2
   try clear c3
   try clear c3b0
   try clear c3b1
   try clear c4
   try clear c4b0
   try clear c4b1
   try clear c10
   try clear hcz11_0
   try clear hfz11_0
   obtain ⟨x12_1, x1202000_1, u1202000, rfl, HA, HK1, HO_1202000, BK1197, BK1201, HB⟩ := hrel
   cases gk with
   | zero => exact absurd HA.out (by simp [made_rectangle.l0])
   | succ k1 =>
    have H := HA.out
    clear HA
    simp only [made_rectangle.l0] at H
    by_cases c12 : x12_1 < a0
    ·rw [if_pos c12] at H
     have c12b0 := decide_eq_true c12
     clear c12
     have H' := am H
     clear H
     go_wp2
     go_loopg [16] k1 (fun kq v16 w' => ∃ (x16_2 : Int) (x1202000_2 : List Int) (u1202000 : Value), v16 = .int .i64 x16_2 ∧ Aside0 (made_rectangle.l1 F kq x12_1 a0 x12_1 x12_1 x16_2 x1202000_2 = some r) ∧ Aside0 (kq ≤ k1) ∧ Aside0 (Kd.R (Kd.int .i64) 3 w' w.heap.size (fun _ => True) u1202000 x1202000_2) ∧ Aside0 (w'.heap[gb1197]? = some (.cells #[(.slice none 0 0)] 26 (0, 0))) ∧ Aside0 (w'.heap[gb1201]? = some (.cells #[u1202000] 26 (0, 0))) ∧ Aside0 (Below w.heap.size w w'))
     case atStart => exact ⟨(0), (x1202000_1), (u1202000), qe, H', ⟨Nat.le_refl _⟩, ⟨qR HO_1202000.out⟩, ⟨qb BK1197.out⟩, ⟨qb BK1201.out⟩, ⟨qB⟩⟩
     case round =>
      clear H'
      try clear c1
      try clear p2
      try clear c3
      try clear c3b0
      try clear c3b1
      try clear c4
      try clear c4b0
      try clear c4b1
      try clear c10
      try clear c12
      try clear c12b0
      try clear hcz11_0
      try clear hfz11_0
      try clear p2
      obtain ⟨x16_2, x1202000_2, u1202000, rfl, HA, HK2, HO_1202000, BK1197, BK1201, HB⟩ := hrel
      cases gk with
      | zero => exact absurd HA.out (by simp [made_rectangle.l1])
      | succ k2 =>
       have H := HA.out
       clear HA
       simp only [made_rectangle.l1] at H
       by_cases c13 : x16_2 < x12_1
       ·rw [if_pos c13] at H
        have c13b0 := decide_eq_true c13
        clear c13
        replace H := Option.bind_eq_some_iff.mp H
        obtain ⟨t1202, A140, H⟩ := H
        (try dsimp only at H)
        have A14 := am A140
        clear A140
        by_cases c15 : t1202 = true
        ·subst c15
         rw [if_pos rfl] at H
         by_cases c16 : 0 ≤ x12_1
         rotate_left
         ·rw [if_neg c16] at H
          exact absurd H (by simp)
         rw [if_pos c16] at H
         have c16b0 := decide_eq_true c16
         clear c16
         by_cases c17 : x12_1 < (x1202000_2.length : Int)
         rotate_left
         ·rw [if_neg c17] at H
          exact absurd H (by simp)
         rw [if_pos c17] at H
         have c17b0 := decide_eq_true c17
         clear c17
         by_cases c18 : 0 ≤ x16_2
         rotate_left
         ·rw [if_neg c18] at H
          exact absurd H (by simp)
         rw [if_pos c18] at H
         have c18b0 := eq_true c18
         have c18b1 := decide_eq_true c18
         clear c18
         obtain ⟨ji19, hji19⟩ : ∃ j_ : Int, (shl .i64 1 x16_2) = j_ := ⟨_, rfl⟩
         first | rw [hji19] at H | simp only [hji19] at H
         (try rw [hji19] at A14)
         have hji19_ : (IntKind.i64.wrap (1 * 2 ^ min x16_2.toNat 64)) = ji19 := hji19
         have hji19z : x16_2 ≤ 64 → (IntKind.i64.wrap (1 * 2 ^ x16_2.toNat)) = ji19 := shl_small hji19
         have hji19u : (IntKind.i64.wrap (2 ^ min x16_2.toNat 64)) = ji19 := by have h_ := hji19_; rw [Int.one_mul] at h_; exact h_
         have hji19v : x16_2 ≤ 64 → (IntKind.i64.wrap (2 ^ x16_2.toNat)) = ji19 := fun hle_ => by have h_ := hji19z hle_; rw [Int.one_mul] at h_; exact h_
         have hji19y : (wrap64 (1 * 2 ^ min x16_2.toNat 64)) = ji19 := (i64_w _).symm.trans hji19_
         have hji19x : x16_2 ≤ 64 → (wrap64 (1 * 2 ^ x16_2.toNat)) = ji19 := fun h_ => (i64_w _).symm.trans (hji19z h_)
         obtain ⟨y1204, hy1204⟩ : ∃ y_ : List Int, y_ = (x1202000_2.set (x12_1 : Int).toNat (Go.bits .or .i64 (rd x1202000_2 x12_1) (ji19))) := ⟨_, rfl⟩
         first | rw [← hy1204] at H | (have H2_ := (Option.bind_some _ _).symm.trans H; clear H; have H := H2_; clear H2_; rw [← hy1204] at H)
         have Ny1204 := am hy1204
         clear hy1204
         have H' := am H
         clear H
         try go_wp2_with ((go_at_call 143; (with_reducible refine (HF.out x16_2 x12_1 true _ A14.out ?hbl).mono ?_); (case hbl => repeat (first | (with_reducible first | exact HB.out | exact Below.refl _ _ | apply below_alloc | apply pw_below_drewN | apply below_drew1) | exact HB.out | exact Below.refl _ _)); rintro e w' ⟨rfl, ⟨nd, rfl⟩⟩; (try (rw [drewN_self wr]; generalize hq_ : World.drewN wr _ = wr; have n0_ : Aside0 (Kd.R (Kd.int .i64) 3 wr w.heap.size (fun _ => True) u1202000 x1202000_2) := ⟨by rw [← hq_]; exact (qR HO_1202000.out)⟩; have n1_ : Aside0 (wr.heap[gb1197]? = some (.cells #[.slice none 0 0] 26 (0, 0))) := ⟨by rw [← hq_]; exact (qb BK1197.out)⟩; have n2_ : Aside0 (wr.heap[gb1201]? = some (.cells #[u1202000] 26 (0, 0))) := ⟨by rw [← hq_]; exact (qb BK1201.out)⟩; have n3_ : Aside0 (Below w.heap.size w wr) := ⟨by rw [← hq_]; exact qB⟩; clear HO_1202000 BK1197 BK1201 HB hq_; have HO_1202000 := n0_; have BK1197 := n1_; have BK1201 := n2_; have HB := n3_; clear n0_ n1_ n2_ n3_))))
         have n0_ := am (Kd.R_drew HO_1202000.out)
         have n1_ := am (blk_drew BK1197.out)
         have n2_ := am (blk_drew BK1201.out)
         have n3_ := am (below_drew1 HB.out)
         clear HO_1202000
         clear BK1197
         clear BK1201
         clear HB
         have HO_1202000 := n0_
         have BK1197 := n1_
         have BK1201 := n2_
         have HB := n3_
         clear n0_ n1_ n2_ n3_
         obtain ⟨Ao22, co22, eo22⟩ := Kd.R_slice HO_1202000.out
         (first | subst eo22 | (injection eo22 with f1_ f2_ f3_; have f4_ := f1_.symm; have f5_ := f3_.symm; clear f1_ f2_ f3_; subst f4_; subst f5_))
         have p1203 : 0 ≤ (x12_1 : Int) := qd
         have q1203 : x12_1 < (x1202000_2.length : Int) := qd
         obtain ⟨ad1203, e1203, hx1203_0⟩ := Kd.at_int (Kd.R_reads' HO_1202000.out).2.2 x12_1 p1203 q1203
         cases e1203
         replace p1203 := eq_true p1203
         replace q1203 := eq_true q1203
         have p20 : 0 ≤ (x12_1 : Int) := qd
         have q20 : (x12_1 : Int) < ((x1202000_2.length : Int) : Int) := qd
         obtain ⟨go20, co20, eo20, gb20, gl20, cl20, HG20⟩ := Kd.R_form HO_1202000.out (by omega)
         (first | cases eo20 | (injection eo20 with ea_ en_ ec_; (first | subst ea_ | (injection ea_ with ea_; subst ea_)); subst ec_; clear en_))
         have GB20 := am gb20
         have GG20 := am HG20
         clear gb20 gl20 HG20
         (first | simp only [add_plain] at hx1203_0 | skip)
         obtain ⟨hx20_0, hf20_0⟩ := Kd.R_celln 0 HO_1202000.out (x12_1 : Int) p20 q20
         replace p20 := eq_true p20
         replace q20 := eq_true q20
         have HP23 := Kd.R_putn HO_1202000.out (x12_1 : Int) (Go.bits .or .i64 (rd x1202000_2 x12_1) (ji19))
         rw [← Ny1204.out] at HP23
         have HQ23 := am HP23
         clear HP23
         refine start_ (n := 10) (S := fun w' => w'.cell? ⟨gb1201, 0, none⟩ = some (.slice (some ⟨go20, 0, none⟩) x1202000_2.length co22) ∧ w'.cell? ⟨go20, (x12_1).toNat, none⟩ = some (.int .i64 (rd x1202000_2 x12_1))) (ds := [9]) #[false, false, false, false, false, false, false, false, false, false] (by kernel_rfl) rfl rfl ⟨(blk_cell BK1201.out 0).trans rfl, hx1203_0⟩ (fun hHeld => ?_); refine with_tabW made_rectangle.tab9 made_rectangle.bits9 (fun HT_ HW_ => ?_)
         generalize wr.drew = w21 at HO_1202000 BK1197 BK1201 HB GG20 HQ23 hf20_0 hx1203_0 hx20_0 hHeld ⊢
         refine pure_ (i := 0) (N := some 23) (v := ?_) (a' := ?_) #[true, false, false, false, false, false, false, false, false, false] rfl rfl (any_of HT_.out (by kernel_rfl)) (fun _ _ _ h => h) (Or.inl ⟨by rfl, ?_⟩) ?_ ?_
         rotate_left
         ·intro w'
          go_simp
          with_reducible rfl
         rotate_left
         ·exact qP
         refine pure_ (i := 2) (N := some 25) (v := ?_) (a' := ?_) #[true, false, true, false, false, false, false, false, false, false] rfl rfl (any_of HT_.out (by kernel_rfl)) (fun _ _ _ h => h) (Or.inl ⟨by rfl, ?_⟩) ?_ ?_
         rotate_left
         ·intro w'
          go_simp
          with_reducible rfl
         rotate_left
         ·exact qP
         refine pure_ (i := 5) (N := some 28) (v := ?_) (a' := ?_) #[true, false, true, false, false, true, false, false, false, false] rfl rfl (any_of HT_.out (by kernel_rfl)) (fun _ _ _ h => h) (Or.inl ⟨by rfl, ?_⟩) ?_ ?_
         rotate_left
         ·intro w'
          go_simp
          with_reducible rfl
         rotate_left
         ·exact qP
         refine pure_ (i := 6) (N := some 29) (v := ?_) (a' := ?_) #[true, false, true, false, false, true, true, false, false, false] rfl rfl (any_of HT_.out (by kernel_rfl)) (fun _ _ _ h => h) (Or.inl ⟨by rfl, ?_⟩) ?_ ?_
         rotate_left
         ·intro w'
          go_simp
          with_reducible rfl
         rotate_left
         ·exact qP
         refine take_ (i := 1) (N := some 24) (v := ?_) (a' := ?_) #[true, true, true, false, false, true, true, false, false, false] rfl rfl (take_ofW HT_.out HW_.out (by kernel_rfl)) (fun _ _ _ h => h) (Or.inl ⟨by rfl, ?_⟩) hHeld ?_ ?_
         rotate_left
         ·rintro w' ⟨s0, s1⟩
          go_simp
          with_reducible rfl
         rotate_left
         ·exact qP
         refine pure_ (i := 3) (N := some 26) (v := ?_) (a' := ?_) #[true, true, true, true, false, true, true, false, false, false] rfl rfl (any_of HT_.out (by kernel_rfl)) (fun _ _ _ h => h) (Or.inl ⟨by rfl, ?_⟩) ?_ ?_
         rotate_left
         ·intro w'
          go_simp
          with_reducible rfl
         rotate_left
         ·exact qP
         refine take_ (i := 4) (N := some 27) (v := ?_) (a' := ?_) #[true, true, true, true, true, true, true, false, false, false] rfl rfl (take_ofW HT_.out HW_.out (by kernel_rfl)) (fun _ _ _ h => h) (Or.inl ⟨by rfl, ?_⟩) hHeld ?_ ?_
         rotate_left
         ·rintro w' ⟨s0, s1⟩
          go_simp
          with_reducible rfl
         rotate_left
         ·exact qP
         refine pure_ (i := 7) (N := some 30) (v := ?_) (a' := ?_) #[true, true, true, true, true, true, true, true, false, false] rfl rfl (any_of HT_.out (by kernel_rfl)) (fun _ _ _ h => h) (Or.inl ⟨by rfl, ?_⟩) ?_ ?_
         rotate_left
         ·intro w'
          go_simp
          with_reducible rfl
         rotate_left
         ·exact qP
         refine pure_ (i := 8) (N := some 31) (v := ?_) (a' := ?_) #[true, true, true, true, true, true, true, true, true, false] rfl rfl (any_of HT_.out (by kernel_rfl)) (fun _ _ _ h => h) (Or.inl ⟨by rfl, ?_⟩) ?_ ?_
         rotate_left
         ·intro w'
          go_simp
          with_reducible rfl
         rotate_left
         ·exact qP
         refine last_ (i := 9) (N := none) #[true, true, true, true, true, true, true, true, true, true] rfl rfl (one_of HT_.out (by kernel_rfl)) (by decide) (fun K hK => ?_)
         refine skip_ (w1 := ?_) (by rfl) rfl ?_ ?_
         rotate_left
         ·go_simp
          rfl
         refine hK.out _ _ ?_
         clear hK K
         refine done_ (done_of HT_.out (by kernel_rfl)) ?_
         try go_wp2
         go_roundg k2
         case measure => have := HK1.out; have := HK2.out; omega
         case rel => exact ⟨(wrap64 (x16_2 + 1)), (y1204), (.slice (some ⟨go20, 0, none⟩) x1202000_2.length co22), qe, H', ⟨by have := HK1.out; have := HK2.out; omega⟩, ⟨qR HQ23.out⟩, ⟨by (with_reducible repeat (first | refine blk_drewN ?_ _ | refine blk_drew ?_ | refine blk_alloc ?_ _)); refine blk_far ?_ (by have h_ := Kd.R_ne HO_1202000.out BK1197.out (by decide); intro e_; exact h_ (by rw [e_]; rfl)) _; refine qb ?_; exact BK1197.out⟩, ⟨by (with_reducible repeat (first | refine blk_drewN ?_ _ | refine blk_drew ?_ | refine blk_alloc ?_ _)); refine blk_far ?_ (by have h_ := Kd.R_ne HO_1202000.out BK1201.out (by decide); intro e_; exact h_ (by rw [e_]; rfl)) _; refine qb ?_; exact BK1201.out⟩, ⟨qB⟩⟩
        ·replace c15 := Bool.eq_false_iff.mpr c15
         subst c15
         rw [if_neg (show ¬ (false = true) by decide)] at H
         have H' := am H
         clear H
         go_wp2_with ((go_at_call 143; (with_reducible refine (HF.out x16_2 x12_1 false _ A14.out ?hbl).mono ?_); (case hbl => repeat (first | (with_reducible first | exact HB.out | exact Below.refl _ _ | apply below_alloc | apply pw_below_drewN | apply below_drew1) | exact HB.out | exact Below.refl _ _)); rintro e w' ⟨rfl, ⟨nd, rfl⟩⟩))
         go_roundg k2
         case measure => have := HK1.out; have := HK2.out; omega
         case rel => exact ⟨(wrap64 (x16_2 + 1)), (x1202000_2), (u1202000), qe, H', ⟨by have := HK1.out; have := HK2.out; omega⟩, ⟨qR HO_1202000.out⟩, ⟨qb BK1197.out⟩, ⟨qb BK1201.out⟩, ⟨qB⟩⟩
       ·rw [if_neg c13] at H
        have c13b0 := decide_eq_false c13
        clear c13
        have H' := am H
        clear H
        go_wp2
        go_roundg k2
        case measure => have := HK1.out; have := HK2.out; omega
        case rel => exact ⟨(wrap64 (x12_1 + 1)), (x1202000_2), (u1202000), qe, H', ⟨by have := HK1.out; have := HK2.out; omega⟩, ⟨qR HO_1202000.out⟩, ⟨qb BK1197.out⟩, ⟨qb BK1201.out⟩, ⟨qB⟩⟩
    ·rw [if_neg c12] at H
     have c12b0 := decide_eq_false c12
     clear c12
     obtain rfl := Option.some.inj H
     have hnb24 := NB1201_1197.out
     have hnc24 := NB1197_1201.out
     have hcz25_0 := qz wr BK1201.out
     have hfz25_0 := blk_frozen BK1201.out 0
     obtain ⟨Ao26, co26, eo26⟩ := Kd.R_slice HO_1202000.out
     subst eo26
     have hcz27_0 := qz wr BK1197.out
     have hfz27_0 := blk_frozen BK1197.out 0
     go_wp2
     refine bodyPost_ret (results_cell_row rfl _ _ gb1197 26 #[.slice Ao26 x1202000_1.length co26] (0, 0) _ rfl (by (with_reducible repeat (first | refine blk_drewN ?_ _ | refine blk_drew ?_ | refine blk_alloc ?_ _)); refine blk_put (cs := #[.slice none 0 0]) ?_ 0 _ rfl; refine qb ?_; exact BK1197.out) Try.underlying26 rfl (by kernel_rfl)) rfl ?_
     exact ⟨_, qr, qR (Kd.R_mono (Kd.R_far (p := ⟨gb1197, 0, none⟩) (Kd.R_types HO_1202000.out BK1197.out (by decide)) (fun _ hk => hk.2) (.slice Ao26 x1202000_1.length co26)) (fun _ hk => trivial)), qB⟩
 ·rw [if_neg c3] at H
  exact absurd H (by simp)
def bits_OnesCount64.f (a0 : Int) : Option (Int) := some (Go.bits .and .i64 (wrap64 (IntKind.u64.wrap ((IntKind.u64.wrap ((IntKind.u64.wrap ((Go.bits .and .u64 (IntKind.u64.wrap (((IntKind.u64.wrap ((Go.bits .and .u64 ((IntKind.u64.wrap ((Go.bits .and .u64 (a0 / 2) 6148914691236517205) + (Go.bits .and .u64 a0 6148914691236517205))) / 4) 3689348814741910323) + (Go.bits .and .u64 (IntKind.u64.wrap ((Go.bits .and .u64 (a0 / 2) 6148914691236517205) + (Go.bits .and .u64 a0 6148914691236517205))) 3689348814741910323))) / 16) + (IntKind.u64.wrap ((Go.bits .and .u64 ((IntKind.u64.wrap ((Go.bits .and .u64 (a0 / 2) 6148914691236517205) + (Go.bits .and .u64 a0 6148914691236517205))) / 4) 3689348814741910323) + (Go.bits .and .u64 (IntKind.u64.wrap ((Go.bits .and .u64 (a0 / 2) 6148914691236517205) + (Go.bits .and .u64 a0 6148914691236517205))) 3689348814741910323))))) 1085102592571150095) + ((Go.bits .and .u64 (IntKind.u64.wrap (((IntKind.u64.wrap ((Go.bits .and .u64 ((IntKind.u64.wrap ((Go.bits .and .u64 (a0 / 2) 6148914691236517205) + (Go.bits .and .u64 a0 6148914691236517205))) / 4) 3689348814741910323) + (Go.bits .and .u64 (IntKind.u64.wrap ((Go.bits .and .u64 (a0 / 2) 6148914691236517205) + (Go.bits .and .u64 a0 6148914691236517205))) 3689348814741910323))) / 16) + (IntKind.u64.wrap ((Go.bits .and .u64 ((IntKind.u64.wrap ((Go.bits .and .u64 (a0 / 2) 6148914691236517205) + (Go.bits .and .u64 a0 6148914691236517205))) / 4) 3689348814741910323) + (Go.bits .and .u64 (IntKind.u64.wrap ((Go.bits .and .u64 (a0 / 2) 6148914691236517205) + (Go.bits .and .u64 a0 6148914691236517205))) 3689348814741910323))))) 1085102592571150095) / 256))) + ((IntKind.u64.wrap ((Go.bits .and .u64 (IntKind.u64.wrap (((IntKind.u64.wrap ((Go.bits .and .u64 ((IntKind.u64.wrap ((Go.bits .and .u64 (a0 / 2) 6148914691236517205) + (Go.bits .and .u64 a0 6148914691236517205))) / 4) 3689348814741910323) + (Go.bits .and .u64 (IntKind.u64.wrap ((Go.bits .and .u64 (a0 / 2) 6148914691236517205) + (Go.bits .and .u64 a0 6148914691236517205))) 3689348814741910323))) / 16) + (IntKind.u64.wrap ((Go.bits .and .u64 ((IntKind.u64.wrap ((Go.bits .and .u64 (a0 / 2) 6148914691236517205) + (Go.bits .and .u64 a0 6148914691236517205))) / 4) 3689348814741910323) + (Go.bits .and .u64 (IntKind.u64.wrap ((Go.bits .and .u64 (a0 / 2) 6148914691236517205) + (Go.bits .and .u64 a0 6148914691236517205))) 3689348814741910323))))) 1085102592571150095) + ((Go.bits .and .u64 (IntKind.u64.wrap (((IntKind.u64.wrap ((Go.bits .and .u64 ((IntKind.u64.wrap ((Go.bits .and .u64 (a0 / 2) 6148914691236517205) + (Go.bits .and .u64 a0 6148914691236517205))) / 4) 3689348814741910323) + (Go.bits .and .u64 (IntKind.u64.wrap ((Go.bits .and .u64 (a0 / 2) 6148914691236517205) + (Go.bits .and .u64 a0 6148914691236517205))) 3689348814741910323))) / 16) + (IntKind.u64.wrap ((Go.bits .and .u64 ((IntKind.u64.wrap ((Go.bits .and .u64 (a0 / 2) 6148914691236517205) + (Go.bits .and .u64 a0 6148914691236517205))) / 4) 3689348814741910323) + (Go.bits .and .u64 (IntKind.u64.wrap ((Go.bits .and .u64 (a0 / 2) 6148914691236517205) + (Go.bits .and .u64 a0 6148914691236517205))) 3689348814741910323))))) 1085102592571150095) / 256))) / 65536))) + ((IntKind.u64.wrap ((IntKind.u64.wrap ((Go.bits .and .u64 (IntKind.u64.wrap (((IntKind.u64.wrap ((Go.bits .and .u64 ((IntKind.u64.wrap ((Go.bits .and .u64 (a0 / 2) 6148914691236517205) + (Go.bits .and .u64 a0 6148914691236517205))) / 4) 3689348814741910323) + (Go.bits .and .u64 (IntKind.u64.wrap ((Go.bits .and .u64 (a0 / 2) 6148914691236517205) + (Go.bits .and .u64 a0 6148914691236517205))) 3689348814741910323))) / 16) + (IntKind.u64.wrap ((Go.bits .and .u64 ((IntKind.u64.wrap ((Go.bits .and .u64 (a0 / 2) 6148914691236517205) + (Go.bits .and .u64 a0 6148914691236517205))) / 4) 3689348814741910323) + (Go.bits .and .u64 (IntKind.u64.wrap ((Go.bits .and .u64 (a0 / 2) 6148914691236517205) + (Go.bits .and .u64 a0 6148914691236517205))) 3689348814741910323))))) 1085102592571150095) + ((Go.bits .and .u64 (IntKind.u64.wrap (((IntKind.u64.wrap ((Go.bits .and .u64 ((IntKind.u64.wrap ((Go.bits .and .u64 (a0 / 2) 6148914691236517205) + (Go.bits .and .u64 a0 6148914691236517205))) / 4) 3689348814741910323) + (Go.bits .and .u64 (IntKind.u64.wrap ((Go.bits .and .u64 (a0 / 2) 6148914691236517205) + (Go.bits .and .u64 a0 6148914691236517205))) 3689348814741910323))) / 16) + (IntKind.u64.wrap ((Go.bits .and .u64 ((IntKind.u64.wrap ((Go.bits .and .u64 (a0 / 2) 6148914691236517205) + (Go.bits .and .u64 a0 6148914691236517205))) / 4) 3689348814741910323) + (Go.bits .and .u64 (IntKind.u64.wrap ((Go.bits .and .u64 (a0 / 2) 6148914691236517205) + (Go.bits .and .u64 a0 6148914691236517205))) 3689348814741910323))))) 1085102592571150095) / 256))) + ((IntKind.u64.wrap ((Go.bits .and .u64 (IntKind.u64.wrap (((IntKind.u64.wrap ((Go.bits .and .u64 ((IntKind.u64.wrap ((Go.bits .and .u64 (a0 / 2) 6148914691236517205) + (Go.bits .and .u64 a0 6148914691236517205))) / 4) 3689348814741910323) + (Go.bits .and .u64 (IntKind.u64.wrap ((Go.bits .and .u64 (a0 / 2) 6148914691236517205) + (Go.bits .and .u64 a0 6148914691236517205))) 3689348814741910323))) / 16) + (IntKind.u64.wrap ((Go.bits .and .u64 ((IntKind.u64.wrap ((Go.bits .and .u64 (a0 / 2) 6148914691236517205) + (Go.bits .and .u64 a0 6148914691236517205))) / 4) 3689348814741910323) + (Go.bits .and .u64 (IntKind.u64.wrap ((Go.bits .and .u64 (a0 / 2) 6148914691236517205) + (Go.bits .and .u64 a0 6148914691236517205))) 3689348814741910323))))) 1085102592571150095) + ((Go.bits .and .u64 (IntKind.u64.wrap (((IntKind.u64.wrap ((Go.bits .and .u64 ((IntKind.u64.wrap ((Go.bits .and .u64 (a0 / 2) 6148914691236517205) + (Go.bits .and .u64 a0 6148914691236517205))) / 4) 3689348814741910323) + (Go.bits .and .u64 (IntKind.u64.wrap ((Go.bits .and .u64 (a0 / 2) 6148914691236517205) + (Go.bits .and .u64 a0 6148914691236517205))) 3689348814741910323))) / 16) + (IntKind.u64.wrap ((Go.bits .and .u64 ((IntKind.u64.wrap ((Go.bits .and .u64 (a0 / 2) 6148914691236517205) + (Go.bits .and .u64 a0 6148914691236517205))) / 4) 3689348814741910323) + (Go.bits .and .u64 (IntKind.u64.wrap ((Go.bits .and .u64 (a0 / 2) 6148914691236517205) + (Go.bits .and .u64 a0 6148914691236517205))) 3689348814741910323))))) 1085102592571150095) / 256))) / 65536))) / 4294967296)))) 127)
set_option maxHeartbeats 8000000 in
set_option maxRecDepth 100000 in
theorem bits_OnesCount64.calls (a0 : Int) (r : Int) (w : World) (h : bits_OnesCount64.f a0 = some r) :
 Calls Try.prog 163 #[.int .u64 a0] w fun e w' => e = .returned (.int .i64 r) ∧ Drawn0 w w' := by
 have H := h
 unfold bits_OnesCount64.f at H
 clear h
 obtain rfl := Option.some.inj H
 go_enter Try.func163, Try.ntmps163
 go_wp2
 go_ret
 exact ⟨by first | rfl | (simp; done) | (simp [*]; done), by repeat (first | exact Drawn0.refl _ | apply Drawn0.step)⟩
def bits_OnesCount.f (a0 : Int) : Option (Int) := (bits_OnesCount64.f a0).bind fun t850 => (some t850)
set_option maxHeartbeats 8000000 in
set_option maxRecDepth 100000 in
theorem bits_OnesCount.calls (a0 : Int) (r : Int) (w : World) (h : bits_OnesCount.f a0 = some r) :
 Calls Try.prog 160 #[.int .u64 a0] w fun e w' => e = .returned (.int .i64 r) ∧ Drawn0 w w' := by
 have H := h
 unfold bits_OnesCount.f at H
 clear h
 replace H := Option.bind_eq_some_iff.mp H
 obtain ⟨t850, A20, H⟩ := H
 (try dsimp only at H)
 have A2 := am A20
 clear A20
 obtain rfl := Option.some.inj H
 go_enter Try.func160, Try.ntmps160
 go_wp2_with (((with_reducible refine gate_callee (f := 163) rfl ?_); refine gL (some 7) Try.func163 #[.int .u64 a0] ?_; (with_reducible refine (bits_OnesCount64.calls a0 t850 _ A2.out).mono ?_); rintro e w' ⟨rfl, ⟨nd, rfl⟩⟩; refine ⟨_, rfl, ?_⟩))
 go_ret
 exact ⟨by first | rfl | (simp; done) | (simp [*]; done), by repeat (first | exact Drawn0.refl _ | apply Drawn0.step)⟩
def impl_has.f (a0 : Int) (a1 : Int) : Option (Bool) := if 0 ≤ a1 then (some ((Go.bits .and .i64 (shr .i64 a0 a1) 1) == 1)) else (none)
set_option maxHeartbeats 8000000 in
set_option maxRecDepth 100000 in
theorem impl_has.calls (a0 : Int) (a1 : Int) (r : Bool) (w : World) (h : impl_has.f a0 a1 = some r) :
 Calls Try.prog 136 #[.int .i64 a0, .int .i64 a1] w fun e w' => e = .returned (.bool r) ∧ Drawn0 w w' := by
 have H := h
 unfold impl_has.f at H
 clear h
 by_cases c3 : 0 ≤ a1
 ·rw [if_pos c3] at H
  have c3b0 := eq_true c3
  have c3b1 := decide_eq_true c3
  clear c3
  obtain ⟨ji4, hji4⟩ : ∃ j_ : Int, (shr .i64 a0 a1) = j_ := ⟨_, rfl⟩
  first | rw [hji4] at H | simp only [hji4] at H
  have hji4_ : (a0 / 2 ^ min a1.toNat 64) = ji4 := hji4
  have hji4z : a1 ≤ 64 → (a0 / 2 ^ a1.toNat) = ji4 := shr_small hji4
  obtain rfl := Option.some.inj H
  go_enter Try.func136, Try.ntmps136
  go_wp2
  go_ret
  exact ⟨by first | rfl | (simp; done) | (simp only [← hji4] <;> (first | rfl | simp)) | (simp [*]; done), by repeat (first | exact Drawn0.refl _ | apply Drawn0.step)⟩
 ·rw [if_neg c3] at H
  exact absurd H (by simp)
def impl_items.l0 : Nat → Int → List Int → Int → Option (List Int)
 | 0, _, _, _ => none
 | k + 1, x0, x3, x6 => if x6 < 10 then ((impl_has.f x0 x6).bind fun t104 => (if t104 = true then (if x3.length < 17592186044416 then (impl_items.l0 k x0 (x3 ++ [x6]) (wrap64 (x6 + 1))) else (none)) else (impl_items.l0 k x0 x3 (wrap64 (x6 + 1))))) else (some x3)
def impl_items.f (k : Nat) (a0 : Int) : Option (List Int) := impl_items.l0 k a0 (([] : List Int)) 0
theorem impl_items.mono_l : ∀ k, (∀ y0 y1 y2, LeO (impl_items.l0 k y0 y1 y2) (impl_items.l0 (k + 1) y0 y1 y2))
 | 0 => fun _ _ _ r h => by simp [impl_items.l0] at h
 | k + 1 => by
  have ih0 := impl_items.mono_l k
  ·intro y0 y1 y2
   unfold impl_items.l0
   repeat' first
   | (with_reducible exact LeO.refl _)
   | (with_reducible exact LeO.none _)
   | (with_reducible refine LeO.ite ?_ ?_)
   | (with_reducible refine LeO.bind ?_ (fun _ => ?_))
   | exact ih0 _ _ _
   | exact LeO.none _
   | refine LeO.ite ?_ ?_
   | refine LeO.bind ?_ (fun _ => ?_)
theorem impl_items.mono : ∀ a0 k, LeO (impl_items.f k a0) (impl_items.f (k + 1) a0) := by
 intro a0 k
 have ih0 := impl_items.mono_l k
 unfold impl_items.f
 repeat' first
  | (with_reducible exact LeO.refl _)
  | (with_reducible exact LeO.none _)
  | (with_reducible refine LeO.ite ?_ ?_)
  | (with_reducible refine LeO.bind ?_ (fun _ => ?_))
  | exact ih0 _ _ _
  | exact LeO.none _
  | refine LeO.ite ?_ ?_
  | refine LeO.bind ?_ (fun _ => ?_)
set_option maxHeartbeats 8000000 in
set_option maxRecDepth 100000 in
theorem impl_items.calls (k : Nat) (a0 : Int) (r : List Int) (w : World) (h : impl_items.f k a0 = some r) :
 Calls Try.prog 102 #[.int .i64 a0] w fun e w' => ∃ v0_ : Value, e = .returned (v0_) ∧ Kd.R (Kd.int .i64) 3 w' w.heap.size (fun _ => True) v0_ r ∧ Below w.heap.size w w' := by
 have HB := am (Below.refl w.heap.size w)
 have H := h
 unfold impl_items.f at H
 clear h
 obtain ⟨y101, hy101⟩ : ∃ y_ : List Int, y_ = (([] : List Int)) := ⟨_, rfl⟩
 first | rw [← hy101] at H | (have H2_ := (Option.bind_some _ _).symm.trans H; clear H; have H := H2_; clear H2_; rw [← hy101] at H)
 have Ny101 := am hy101
 clear hy101
 have H' := am H
 clear H
 go_enter Try.func102, Try.ntmps102
 go_wp2_with (((with_reducible refine gate_dst (N := 5) rfl ?_); refine Kd.R_lit (Kd.int .i64) _ 3 ?hg (N := 5) ?hd (xs := ([] : List Int)) (inner := []) (ok := fun _ => True) (okp := fun _ => True) ?hr ?hp (fun _ hk => hk) trivial (Below.refl _ _) (Nat.le_refl _) (by simp) ?_; (case hd => rfl); (case hg => rfl); (case hr => first | (go_simp; done) | (go_simp; rfl)); (case hp => exact (Reps.none _ _)); intro v102 w2 ho3 hb hg_ hnew_; clear hg_ hnew_; (first | rw [← Ny101.out] at ho3 | (simp only [Int.reduceToNat] at ho3; rw [← Ny101.out] at ho3)); have HO103 := am (Kd.R_lower ho3 (below_size qB)); replace HB := am (below_step qB hb); clear hb ho3))
 go_loopg [3, 6] k (fun kq v3 v6 w' => ∃ (x3_1 : List Int) (x6_1 : Int), v6 = .int .i64 x6_1 ∧ Aside0 (impl_items.l0 kq a0 x3_1 x6_1 = some r) ∧ Aside0 (kq ≤ k) ∧ Aside0 (Kd.R (Kd.int .i64) 3 w' w.heap.size (fun _ => True) v3 x3_1) ∧ Aside0 (Below w.heap.size w w'))
 case atStart => exact ⟨(y101), (0), qe, H', ⟨Nat.le_refl _⟩, ⟨qR HO103.out⟩, ⟨qB⟩⟩
 case round =>
  clear H'
  try clear c1
  try clear p2
  obtain ⟨x3_1, x6_1, rfl, HA, HK1, HO_3, HB⟩ := hrel
  cases gk with
  | zero => exact absurd HA.out (by simp [impl_items.l0])
  | succ k1 =>
   have H := HA.out
   clear HA
   simp only [impl_items.l0] at H
   by_cases c4 : x6_1 < 10
   ·rw [if_pos c4] at H
    have c4b0 := decide_eq_true c4
    clear c4
    replace H := Option.bind_eq_some_iff.mp H
    obtain ⟨t104, A50, H⟩ := H
    (try dsimp only at H)
    have A5 := am A50
    clear A50
    by_cases c6 : t104 = true
    ·subst c6
     rw [if_pos rfl] at H
     by_cases c7 : x3_1.length < 17592186044416
     rotate_left
     ·rw [if_neg c7] at H
      exact absurd H (by simp)
     rw [if_pos c7] at H
     have LMc7 := am c7
     clear c7
     obtain ⟨y105, hy105⟩ : ∃ y_ : List Int, y_ = (x3_1 ++ [x6_1]) := ⟨_, rfl⟩
     first | rw [← hy105] at H | (have H2_ := (Option.bind_some _ _).symm.trans H; clear H; have H := H2_; clear H2_; rw [← hy105] at H)
     have Ny105 := am hy105
     clear hy105
     have H' := am H
     clear H
     go_wp2_with (first | ((with_reducible refine gate_callee (f := 136) rfl ?_); refine gL (some 11) Try.func136 #[.int .i64 a0, .int .i64 x6_1] ?_; (with_reducible refine (impl_has.calls a0 x6_1 true _ A5.out).mono ?_); rintro e w' ⟨rfl, ⟨nd, rfl⟩⟩; refine ⟨_, rfl, ?_⟩) | ((with_reducible refine gate_builtin (b := .append) (xs := #[.tmp 12, .tmp 14]) rfl ?_); at_builtin; refine Kd.R_append (Kd.int .i64) (w0 := w) w.heap.size rfl (.tmp 12) (.tmp 14) 24 3 (.int .i64 0) 8 rfl Try.underlying24 info3 rfl (by decide) (by omega) u3 x3_1 x6_1 [.int .i64 x6_1] (fun _ => True) (fun _ => False) rfl rfl ?aP (fun _ hk => hk.elim) ?aF ?aO ?aB ?aS ?aL ?_; (case aP => exact rfl); (case aB => exact qB); (case aF => exact (fun _ _ => trivial)); (case aO => exact (qR HO_3.out)); (case aS => exact (below_size qB)); (case aL => have := LMc7.out; omega); intro v106 w8 ho hb hg hat; rw [← Ny105.out] at ho; have n0_ := am (hb); have HO107 := am (ho); clear HB HO_3; have HB := n0_; clear n0_; clear ho hb hg hat))
     go_roundg k1
     case measure => have := HK1.out; omega
     case rel => exact ⟨(y105), (wrap64 (x6_1 + 1)), qe, H', ⟨by have := HK1.out; omega⟩, ⟨qR HO107.out⟩, ⟨qB⟩⟩
    ·replace c6 := Bool.eq_false_iff.mpr c6
     subst c6
     rw [if_neg (show ¬ (false = true) by decide)] at H
     have H' := am H
     clear H
     go_wp2_with (((with_reducible refine gate_callee (f := 136) rfl ?_); refine gL (some 11) Try.func136 #[.int .i64 a0, .int .i64 x6_1] ?_; (with_reducible refine (impl_has.calls a0 x6_1 false _ A5.out).mono ?_); rintro e w' ⟨rfl, ⟨nd, rfl⟩⟩; refine ⟨_, rfl, ?_⟩))
     go_roundg k1
     case measure => have := HK1.out; omega
     case rel => exact ⟨(x3_1), (wrap64 (x6_1 + 1)), qe, H', ⟨by have := HK1.out; omega⟩, ⟨qR HO_3.out⟩, ⟨qB⟩⟩
   ·rw [if_neg c4] at H
    have c4b0 := decide_eq_false c4
    clear c4
    obtain rfl := Option.some.inj H
    go_wp2
    go_ret
    exact ⟨_, qr, qR HO_3.out, qB⟩
def impl_Poset_close.l0 : Nat → Int → List Int → Int → Int → List Int → Option (Int)
 | 0, _, _, _, _, _ => none
 | k + 1, x5, x10, x11, x12, x109000 => if x12 < x11 then (if 0 ≤ x12 then (if x12 < (x10.length : Int) then (if 0 ≤ (rd x10 x12) then (if (rd x10 x12) < (x109000.length : Int) then (impl_Poset_close.l0 k (Go.bits .or .i64 x5 (rd x109000 (rd x10 x12))) x10 x11 (wrap64 (x12 + 1)) x109000) else (none)) else (none)) else (none)) else (none)) else (some x5)
def impl_Poset_close.f (k : Nat) (l0_0 : List Int) (a1 : Int) : Option (Int) := (impl_items.f k a1).bind fun t109 => (impl_Poset_close.l0 k a1 t109 (t109.length : Int) 0 l0_0)
theorem impl_Poset_close.mono_l : ∀ k, (∀ y0 y1 y2 y3 y4, LeO (impl_Poset_close.l0 k y0 y1 y2 y3 y4) (impl_Poset_close.l0 (k + 1) y0 y1 y2 y3 y4))
 | 0 => fun _ _ _ _ _ r h => by simp [impl_Poset_close.l0] at h
 | k + 1 => by
  have ih0 := impl_Poset_close.mono_l k
  ·intro y0 y1 y2 y3 y4
   unfold impl_Poset_close.l0
   repeat' first
   | (with_reducible exact impl_items.mono _ _)
   | (with_reducible exact LeO.refl _)
   | (with_reducible exact LeO.none _)
   | (with_reducible refine LeO.ite ?_ ?_)
   | (with_reducible refine LeO.bind ?_ (fun _ => ?_))
   | exact ih0 _ _ _ _ _
   | exact impl_items.mono _ _
   | exact LeO.none _
   | refine LeO.ite ?_ ?_
   | refine LeO.bind ?_ (fun _ => ?_)
theorem impl_Poset_close.mono : ∀ a0 a1 k, LeO (impl_Poset_close.f k a0 a1) (impl_Poset_close.f (k + 1) a0 a1) := by
 intro a0 a1 k
 have ih0 := impl_Poset_close.mono_l k
 unfold impl_Poset_close.f
 repeat' first
  | (with_reducible exact impl_items.mono _ _)
  | (with_reducible exact LeO.refl _)
  | (with_reducible exact LeO.none _)
  | (with_reducible refine LeO.ite ?_ ?_)
  | (with_reducible refine LeO.bind ?_ (fun _ => ?_))
  | exact ih0 _ _ _ _ _
  | exact impl_items.mono _ _
  | exact LeO.none _
  | refine LeO.ite ?_ ?_
  | refine LeO.bind ?_ (fun _ => ?_)
set_option maxHeartbeats 8000000 in
set_option maxRecDepth 100000 in
theorem impl_Poset_close.calls (k : Nat) (A0_0 : Option Addr) (c0_0 : Nat) (l0_0 : List Int) (a1 : Int) (r : Int) (w : World) (hr0_0 : Kd.C (Kd.int .i64) w A0_0 l0_0.length l0_0) (hc0_0 : l0_0.length ≤ c0_0) (h : impl_Poset_close.f k l0_0 a1 = some r) :
 Calls Try.prog 144 #[.agg #[.slice A0_0 l0_0.length c0_0], .int .i64 a1] w fun e w' => e = .returned (.int .i64 r) ∧ Below w.heap.size w w' := by
 have hu26 := Try.underlying26
 have HR0_0 := am hr0_0
 have HC0_0 := am hc0_0
 clear hr0_0 hc0_0
 have HB := am (Below.refl w.heap.size w)
 have H := h
 unfold impl_Poset_close.f at H
 clear h
 replace H := Option.bind_eq_some_iff.mp H
 obtain ⟨t109, A30, H⟩ := H
 (try dsimp only at H)
 have A3 := am A30
 clear A30
 have H' := am H
 clear H
 go_enter Try.func144, Try.ntmps144
 go_wp2_with (first | ((with_reducible refine gate_dst (N := 2) rfl ?_); refine qx (N := 2) (cs := #[.slice A0_0 l0_0.length c0_0]) (t := 26) ?_; intro gb108 hg w4 hbox hb; have n0_ := am (below_step qB hb); have BK108 := am (hbox); have GW108 := am (qg w hg); have GE108 := am (qg w hg); clear HB; have HB := n0_; clear n0_; clear hb hbox hg) | ((with_reducible refine gate_callee (f := 102) rfl ?_); refine gL (some 10) Try.func102 #[.int .i64 a1] ?_; (with_reducible refine (impl_items.calls k a1 t109 _ A3.out).mono ?_); rintro e w5 ⟨v110, rfl, ho0, hb⟩; refine ⟨_, rfl, ?_⟩; have HO111 := am (Kd.R_lower ho0 (below_size qB)); replace BK108 := am (blk_below (g := gb108) (o := .cells #[.slice A0_0 l0_0.length c0_0] 26 (0, 0)) (qb BK108.out) hb); replace HB := am (below_step qB hb); (try clear hb); (try clear hb2); (try clear hk); (try clear hi); (try clear ho0); obtain ⟨Ao6, co6, eo6⟩ := Kd.R_slice HO111.out; subst eo6))
 go_loopg [5, 12] k (fun kq v5 v12 w' => ∃ (x5_1 : Int) (x12_1 : Int), v5 = .int .i64 x5_1 ∧ v12 = .int .i64 x12_1 ∧ Aside0 (impl_Poset_close.l0 kq x5_1 t109 (t109.length : Int) x12_1 l0_0 = some r) ∧ Aside0 (kq ≤ k) ∧ Aside0 (Kd.R (Kd.int .i64) 3 w' w.heap.size (fun _ => True) (.slice Ao6 t109.length co6) t109) ∧ Aside0 (w'.heap[gb108]? = some (.cells #[(.slice A0_0 l0_0.length c0_0)] 26 (0, 0))) ∧ Aside0 (Below w.heap.size w w'))
 case atStart => exact ⟨(a1), (0), qe, qe, H', ⟨Nat.le_refl _⟩, ⟨qR HO111.out⟩, ⟨qb BK108.out⟩, ⟨qB⟩⟩
 case round =>
  clear H'
  try clear c1
  try clear p2
  obtain ⟨x5_1, x12_1, rfl, rfl, HA, HK1, HO_10, BK108, HB⟩ := hrel
  cases gk with
  | zero => exact absurd HA.out (by simp [impl_Poset_close.l0])
  | succ k1 =>
   have H := HA.out
   clear HA
   simp only [impl_Poset_close.l0] at H
   by_cases c7 : x12_1 < (t109.length : Int)
   ·rw [if_pos c7] at H
    have c7b0 := decide_eq_true c7
    clear c7
    by_cases c8 : 0 ≤ x12_1
    rotate_left
    ·rw [if_neg c8] at H
     exact absurd H (by simp)
    rw [if_pos c8] at H
    have c8b0 := decide_eq_true c8
    clear c8
    by_cases c9 : x12_1 < (t109.length : Int)
    rotate_left
    ·rw [if_neg c9] at H
     exact absurd H (by simp)
    rw [if_pos c9] at H
    have c9b0 := decide_eq_true c9
    clear c9
    by_cases c10 : 0 ≤ (rd t109 x12_1)
    rotate_left
    ·rw [if_neg c10] at H
     exact absurd H (by simp)
    rw [if_pos c10] at H
    have c10b0 := decide_eq_true c10
    clear c10
    by_cases c11 : (rd t109 x12_1) < (l0_0.length : Int)
    rotate_left
    ·rw [if_neg c11] at H
     exact absurd H (by simp)
    rw [if_pos c11] at H
    have c11b0 := decide_eq_true c11
    clear c11
    have H' := am H
    clear H
    have p112 : 0 ≤ (x12_1 : Int) := qd
    have q112 : x12_1 < (t109.length : Int) := qd
    obtain ⟨ad112, e112, hx112_0⟩ := Kd.at_int (Kd.R_reads' HO_10.out).2.2 x12_1 p112 q112
    cases e112
    replace p112 := eq_true p112
    replace q112 := eq_true q112
    have hcz12_0 := qz wr BK108.out
    have hfz12_0 := blk_frozen BK108.out 0
    have p113 : 0 ≤ ((rd t109 x12_1) : Int) := qd
    have q113 : (rd t109 x12_1) < (l0_0.length : Int) := qd
    obtain ⟨ad113, e113, hx113_0⟩ := Kd.at_int HR0_0.out (rd t109 x12_1) p113 q113
    cases e113
    replace hx113_0 := (HB.out.cell (World.block_lt_of_cell? w _ hx113_0)).trans hx113_0
    replace p113 := eq_true p113
    replace q113 := eq_true q113
    go_wp2
    go_roundg k1
    case measure => have := HK1.out; omega
    case rel => exact ⟨(Go.bits .or .i64 x5_1 (rd l0_0 (rd t109 x12_1))), (wrap64 (x12_1 + 1)), qe, qe, H', ⟨by have := HK1.out; omega⟩, ⟨qR HO_10.out⟩, ⟨qb BK108.out⟩, ⟨qB⟩⟩
   ·rw [if_neg c7] at H
    have c7b0 := decide_eq_false c7
    clear c7
    obtain rfl := Option.some.inj H
    go_wp2
    go_ret
    exact ⟨qr, qB⟩
def lit_ideals.f (k : Nat) (a0 : Int) (l1_0 : List Int) : Option (Bool) := (impl_Poset_close.f k l1_0 a0).bind fun t1218 => (some (t1218 == a0))
theorem lit_ideals.mono : ∀ a0 a1 k, LeO (lit_ideals.f k a0 a1) (lit_ideals.f (k + 1) a0 a1) := by
 intro a0 a1 k
 unfold lit_ideals.f
 repeat' first
  | (with_reducible exact impl_Poset_close.mono _ _ _)
  | (with_reducible exact LeO.refl _)
  | (with_reducible exact LeO.none _)
  | (with_reducible refine LeO.ite ?_ ?_)
  | (with_reducible refine LeO.bind ?_ (fun _ => ?_))
  | exact impl_Poset_close.mono _ _ _
  | exact LeO.none _
  | refine LeO.ite ?_ ?_
  | refine LeO.bind ?_ (fun _ => ?_)
set_option maxHeartbeats 8000000 in
set_option maxRecDepth 100000 in
theorem lit_ideals.calls (g0_ : Nat) (k : Nat) (a0 : Int) (A1_0 : Option Addr) (c1_0 : Nat) (l1_0 : List Int) (r : Bool) (w : World) (hcap0 : w.cell? ⟨g0_, 0, none⟩ = some (.slice A1_0 l1_0.length c1_0)) (hr1_0 : Kd.C (Kd.int .i64) w A1_0 l1_0.length l1_0) (hc1_0 : l1_0.length ≤ c1_0) (h : lit_ideals.f k a0 l1_0 = some r) :
 Calls Try.prog 156 #[.int .i64 a0, .pointer (some ⟨g0_, 0, none⟩)] w fun e w' => e = .returned (.bool r) ∧ Below w.heap.size w w' := by
 have HR1_0 := am hr1_0
 have HC1_0 := am hc1_0
 clear hr1_0 hc1_0
 have HB := am (Below.refl w.heap.size w)
 have H := h
 unfold lit_ideals.f at H
 clear h
 replace H := Option.bind_eq_some_iff.mp H
 obtain ⟨t1218, A30, H⟩ := H
 (try dsimp only at H)
 have A3 := am A30
 clear A30
 obtain rfl := Option.some.inj H
 go_enter Try.func156, Try.ntmps156
 go_wp2_with (((with_reducible refine gate_callee (f := 144) rfl ?_); refine gL (some 6) Try.func144 #[.agg #[.slice A1_0 l1_0.length c1_0], .int .i64 a0] ?_; (with_reducible refine (impl_Poset_close.calls k _ _ l1_0 a0 t1218 _ ?side1 ?side2 A3.out).mono ?_); (case side1 => exact qC HR1_0.out); (case side2 => exact HC1_0.out); rintro e w4 ⟨rfl, hb⟩; refine ⟨_, rfl, ?_⟩; replace HB := am (below_step qB hb); (try clear hb); (try clear hb2); (try clear hk); (try clear hi)))
 go_ret
 exact ⟨qr, qB⟩
def impl_Poset_n.f (l0_0 : List Int) : Option (Int) := some (l0_0.length : Int)
set_option maxHeartbeats 8000000 in
set_option maxRecDepth 100000 in
theorem impl_Poset_n.calls (A0_0 : Option Addr) (c0_0 : Nat) (l0_0 : List Int) (r : Int) (w : World) (hr0_0 : Kd.C (Kd.int .i64) w A0_0 l0_0.length l0_0) (hc0_0 : l0_0.length ≤ c0_0) (h : impl_Poset_n.f l0_0 = some r) :
 Calls Try.prog 101 #[.agg #[.slice A0_0 l0_0.length c0_0]] w fun e w' => e = .returned (.int .i64 r) ∧ Below w.heap.size w w' := by
 have hu26 := Try.underlying26
 have HR0_0 := am hr0_0
 have HC0_0 := am hc0_0
 clear hr0_0 hc0_0
 have HB := am (Below.refl w.heap.size w)
 have H := h
 unfold impl_Poset_n.f at H
 clear h
 obtain rfl := Option.some.inj H
 go_enter Try.func101, Try.ntmps101
 go_wp2_with (((with_reducible refine gate_dst (N := 1) rfl ?_); refine qx (N := 1) (cs := #[.slice A0_0 l0_0.length c0_0]) (t := 26) ?_; intro gb114 hg w2 hbox hb; have n0_ := am (below_step qB hb); have BK114 := am (hbox); have GW114 := am (qg w hg); have GE114 := am (qg w hg); clear HB; have HB := n0_; clear n0_; clear hb hbox hg; have hcz3_0 := qz w2 BK114.out; have hfz3_0 := blk_frozen BK114.out 0))
 go_ret
 exact ⟨qr, qB⟩
def impl_Poset_all.f (l0_0 : List Int) : Option (Int) := (impl_Poset_n.f l0_0).bind fun t287 => (if 0 ≤ t287 then (some (wrap64 ((shl .i64 1 t287) - 1))) else (none))
set_option maxHeartbeats 8000000 in
set_option maxRecDepth 100000 in
theorem impl_Poset_all.calls (A0_0 : Option Addr) (c0_0 : Nat) (l0_0 : List Int) (r : Int) (w : World) (hr0_0 : Kd.C (Kd.int .i64) w A0_0 l0_0.length l0_0) (hc0_0 : l0_0.length ≤ c0_0) (h : impl_Poset_all.f l0_0 = some r) :
 Calls Try.prog 114 #[.agg #[.slice A0_0 l0_0.length c0_0]] w fun e w' => e = .returned (.int .i64 r) ∧ Below w.heap.size w w' := by
 have hu26 := Try.underlying26
 have HR0_0 := am hr0_0
 have HC0_0 := am hc0_0
 clear hr0_0 hc0_0
 have HB := am (Below.refl w.heap.size w)
 have H := h
 unfold impl_Poset_all.f at H
 clear h
 replace H := Option.bind_eq_some_iff.mp H
 obtain ⟨t287, A20, H⟩ := H
 (try dsimp only at H)
 have A2 := am A20
 clear A20
 by_cases c3 : 0 ≤ t287
 ·rw [if_pos c3] at H
  have c3b0 := eq_true c3
  have c3b1 := decide_eq_true c3
  clear c3
  obtain ⟨ji4, hji4⟩ : ∃ j_ : Int, (shl .i64 1 t287) = j_ := ⟨_, rfl⟩
  first | rw [hji4] at H | simp only [hji4] at H
  (try rw [hji4] at A2)
  have hji4_ : (IntKind.i64.wrap (1 * 2 ^ min t287.toNat 64)) = ji4 := hji4
  have hji4z : t287 ≤ 64 → (IntKind.i64.wrap (1 * 2 ^ t287.toNat)) = ji4 := shl_small hji4
  have hji4u : (IntKind.i64.wrap (2 ^ min t287.toNat 64)) = ji4 := by have h_ := hji4_; rw [Int.one_mul] at h_; exact h_
  have hji4v : t287 ≤ 64 → (IntKind.i64.wrap (2 ^ t287.toNat)) = ji4 := fun hle_ => by have h_ := hji4z hle_; rw [Int.one_mul] at h_; exact h_
  have hji4y : (wrap64 (1 * 2 ^ min t287.toNat 64)) = ji4 := (i64_w _).symm.trans hji4_
  have hji4x : t287 ≤ 64 → (wrap64 (1 * 2 ^ t287.toNat)) = ji4 := fun h_ => (i64_w _).symm.trans (hji4z h_)
  obtain rfl := Option.some.inj H
  go_enter Try.func114, Try.ntmps114
  go_wp2_with (first | ((with_reducible refine gate_dst (N := 1) rfl ?_); refine qx (N := 1) (cs := #[.slice A0_0 l0_0.length c0_0]) (t := 26) ?_; intro gb286 hg w5 hbox hb; have n0_ := am (below_step qB hb); have BK286 := am (hbox); have GW286 := am (qg w hg); have GE286 := am (qg w hg); clear HB; have HB := n0_; clear n0_; clear hb hbox hg; have hcz6_0 := qz w5 BK286.out; have hfz6_0 := blk_frozen BK286.out 0) | ((with_reducible refine gate_callee (f := 101) rfl ?_); refine gL (some 4) Try.func101 #[.agg #[.slice A0_0 l0_0.length c0_0]] ?_; (with_reducible refine (impl_Poset_n.calls _ _ l0_0 t287 _ ?side1 ?side2 A2.out).mono ?_); (case side1 => exact qC (Kd.C_below HR0_0.out HB.out)); (case side2 => exact HC0_0.out); rintro e w7 ⟨rfl, hb⟩; refine ⟨_, rfl, ?_⟩; replace BK286 := am (blk_below (g := gb286) (o := .cells #[.slice A0_0 l0_0.length c0_0] 26 (0, 0)) (qb BK286.out) hb); replace HB := am (below_step qB hb); (try clear hb); (try clear hb2); (try clear hk); (try clear hi)))
  go_ret
  exact ⟨by first | rfl | (simp [errW_none, errW_some] <;> rfl) | (simp only [← hji4]; first | rfl | (simp [errW_none, errW_some] <;> rfl)) | (simp [*, errW_none, errW_some] <;> rfl), qB⟩
 ·rw [if_neg c3] at H
  exact absurd H (by simp)
def sets_ideals.l0 (F : Int → Option Bool) : Nat → List Int → Int → Int → Option (List Int)
 | 0, _, _, _ => none
 | k + 1, x5, x10, x11 => if x11 < x10 then ((F x11).bind fun t1214 => (if t1214 = true then (if x5.length < 17592186044416 then (sets_ideals.l0 F k (x5 ++ [x11]) x10 (wrap64 (x11 + 1))) else (none)) else (sets_ideals.l0 F k x5 x10 (wrap64 (x11 + 1))))) else (some x5)
def sets_ideals.f (F : Int → Option Bool) (k : Nat) (l0_0 : List Int) : Option (List Int) := (impl_Poset_all.f l0_0).bind fun t1213 => (sets_ideals.l0 F k (([] : List Int)) (wrap64 (t1213 + 1)) 0)
theorem sets_ideals.mono_l (F : Int → Option Bool) : ∀ k, (∀ y0 y1 y2, LeO (sets_ideals.l0 F k y0 y1 y2) (sets_ideals.l0 F (k + 1) y0 y1 y2))
 | 0 => fun _ _ _ r h => by simp [sets_ideals.l0] at h
 | k + 1 => by
  have ih0 := sets_ideals.mono_l F k
  ·intro y0 y1 y2
   unfold sets_ideals.l0
   repeat' first
   | (with_reducible exact LeO.refl _)
   | (with_reducible exact LeO.none _)
   | (with_reducible refine LeO.ite ?_ ?_)
   | (with_reducible refine LeO.bind ?_ (fun _ => ?_))
   | exact ih0 _ _ _
   | exact LeO.none _
   | refine LeO.ite ?_ ?_
   | refine LeO.bind ?_ (fun _ => ?_)
theorem sets_ideals.mono (F : Int → Option Bool) : ∀ a0 k, LeO (sets_ideals.f F k a0) (sets_ideals.f F (k + 1) a0) := by
 intro a0 k
 have ih0 := sets_ideals.mono_l F k
 unfold sets_ideals.f
 repeat' first
  | (with_reducible exact LeO.refl _)
  | (with_reducible exact LeO.none _)
  | (with_reducible refine LeO.ite ?_ ?_)
  | (with_reducible refine LeO.bind ?_ (fun _ => ?_))
  | exact ih0 _ _ _
  | exact LeO.none _
  | refine LeO.ite ?_ ?_
  | refine LeO.bind ?_ (fun _ => ?_)
set_option maxHeartbeats 8000000 in
set_option maxRecDepth 100000 in
theorem sets_ideals.calls (F : Int → Option Bool) (g0_ : Nat) (k : Nat) (A0_0 : Option Addr) (c0_0 : Nat) (l0_0 : List Int) (r : List Int) (w : World) (HF : Aside0 (∀ (x0_ : Int) (r_ : Bool) (W : World), F x0_ = some r_ → Below w.heap.size w W → Calls Try.prog 156 #[.int .i64 x0_, .pointer (some ⟨g0_, 0, none⟩)] W fun e w' => e = .returned (.bool r_) ∧ Below W.heap.size W w')) (hr0_0 : Kd.C (Kd.int .i64) w A0_0 l0_0.length l0_0) (hc0_0 : l0_0.length ≤ c0_0) (h : sets_ideals.f F k l0_0 = some r) :
 Calls Try.prog 155 #[.agg #[.slice A0_0 l0_0.length c0_0], .func (.func 156) #[] #[.pointer (some ⟨g0_, 0, none⟩)]] w fun e w' => ∃ v0_ : Value, e = .returned (v0_) ∧ Kd.R (Kd.int .i64) 3 w' w.heap.size (fun _ => True) v0_ r ∧ Below w.heap.size w w' := by
 have hu26 := Try.underlying26
 have HR0_0 := am hr0_0
 have HC0_0 := am hc0_0
 clear hr0_0 hc0_0
 have HB := am (Below.refl w.heap.size w)
 have H := h
 unfold sets_ideals.f at H
 clear h
 obtain ⟨y1210, hy1210⟩ : ∃ y_ : List Int, y_ = (([] : List Int)) := ⟨_, rfl⟩
 first | rw [← hy1210] at H | (have H2_ := (Option.bind_some _ _).symm.trans H; clear H; have H := H2_; clear H2_; rw [← hy1210] at H)
 have Ny1210 := am hy1210
 clear hy1210
 replace H := Option.bind_eq_some_iff.mp H
 obtain ⟨t1213, A30, H⟩ := H
 (try dsimp only at H)
 have A3 := am A30
 clear A30
 have H' := am H
 clear H
 go_enter Try.func155, Try.ntmps155
 go_wp2_with (first | ((with_reducible refine gate_dst (N := 2) rfl ?_); refine qx (N := 2) (cs := #[.slice A0_0 l0_0.length c0_0]) (t := 26) ?_; intro gb1209 hg w4 hbox hb; have n0_ := am (below_step qB hb); have BK1209 := am (hbox); have GW1209 := am (qg w hg); have GE1209 := am (qg w hg); clear HB; have HB := n0_; clear n0_; clear hb hbox hg) | ((with_reducible refine gate_dst (N := 7) rfl ?_); refine Kd.R_lit (Kd.int .i64) _ 3 ?hg (N := 7) ?hd (xs := ([] : List Int)) (inner := []) (ok := fun _ => True) (okp := fun _ => True) ?hr ?hp (fun _ hk => hk) trivial (Below.refl _ _) (Nat.le_refl _) (by simp) ?_; (case hd => rfl); (case hg => rfl); (case hr => first | (go_simp; done) | (go_simp; rfl)); (case hp => exact (Reps.none _ _)); intro v1211 w5 ho6 hb hg_ hnew_; clear hg_ hnew_; (first | rw [← Ny1210.out] at ho6 | (simp only [Int.reduceToNat] at ho6; rw [← Ny1210.out] at ho6)); have HO1212 := am (Kd.R_lower ho6 (below_size qB)); replace BK1209 := am (blk_below (g := gb1209) (o := .cells #[.slice A0_0 l0_0.length c0_0] 26 (0, 0)) (qb BK1209.out) hb); replace HB := am (below_step qB hb); clear hb ho6; have hcz7_0 := qz w5 BK1209.out; have hfz7_0 := blk_frozen BK1209.out 0) | ((with_reducible refine gate_callee (f := 114) rfl ?_); refine gL (some 9) Try.func114 #[.agg #[.slice A0_0 l0_0.length c0_0]] ?_; (with_reducible refine (impl_Poset_all.calls _ _ l0_0 t1213 _ ?side1 ?side2 A3.out).mono ?_); (case side1 => exact qC (Kd.C_below HR0_0.out HB.out)); (case side2 => exact HC0_0.out); rintro e w8 ⟨rfl, hb⟩; refine ⟨_, rfl, ?_⟩; replace HO1212 := am (Kd.R_below (qR HO1212.out) hb); replace BK1209 := am (blk_below (g := gb1209) (o := .cells #[.slice A0_0 l0_0.length c0_0] 26 (0, 0)) (qb BK1209.out) hb); replace HB := am (below_step qB hb); (try clear hb); (try clear hb2); (try clear hk); (try clear hi)))
 go_loopg [5, 11] k (fun kq v5 v11 w' => ∃ (x5_1 : List Int) (x11_1 : Int), v11 = .int .i64 x11_1 ∧ Aside0 (sets_ideals.l0 F kq x5_1 (wrap64 (t1213 + 1)) x11_1 = some r) ∧ Aside0 (kq ≤ k) ∧ Aside0 (Kd.R (Kd.int .i64) 3 w' w.heap.size (fun _ => True) v5 x5_1) ∧ Aside0 (w'.heap[gb1209]? = some (.cells #[(.slice A0_0 l0_0.length c0_0)] 26 (0, 0))) ∧ Aside0 (Below w.heap.size w w'))
 case atStart => exact ⟨(y1210), (0), qe, H', ⟨Nat.le_refl _⟩, ⟨qR HO1212.out⟩, ⟨qb BK1209.out⟩, ⟨qB⟩⟩
 case round =>
  clear H'
  try clear c1
  try clear p2
  try clear p6
  try clear hcz7_0
  try clear hfz7_0
  obtain ⟨x5_1, x11_1, rfl, HA, HK1, HO_5, BK1209, HB⟩ := hrel
  cases gk with
  | zero => exact absurd HA.out (by simp [sets_ideals.l0])
  | succ k1 =>
   have H := HA.out
   clear HA
   simp only [sets_ideals.l0] at H
   by_cases c9 : x11_1 < (wrap64 (t1213 + 1))
   ·rw [if_pos c9] at H
    have c9b0 := decide_eq_true c9
    clear c9
    replace H := Option.bind_eq_some_iff.mp H
    obtain ⟨t1214, A100, H⟩ := H
    (try dsimp only at H)
    have A10 := am A100
    clear A100
    by_cases c11 : t1214 = true
    ·subst c11
     rw [if_pos rfl] at H
     by_cases c12 : x5_1.length < 17592186044416
     rotate_left
     ·rw [if_neg c12] at H
      exact absurd H (by simp)
     rw [if_pos c12] at H
     have LMc12 := am c12
     clear c12
     obtain ⟨y1215, hy1215⟩ : ∃ y_ : List Int, y_ = (x5_1 ++ [x11_1]) := ⟨_, rfl⟩
     first | rw [← hy1215] at H | (have H2_ := (Option.bind_some _ _).symm.trans H; clear H; have H := H2_; clear H2_; rw [← hy1215] at H)
     have Ny1215 := am hy1215
     clear hy1215
     have H' := am H
     clear H
     go_wp2_with (first | (go_at_call 156; (with_reducible refine (HF.out x11_1 true _ A10.out ?hbl).mono ?_); (case hbl => repeat (first | (with_reducible first | exact HB.out | exact Below.refl _ _ | apply below_alloc | apply pw_below_drewN | apply below_drew1) | exact HB.out | exact Below.refl _ _)); rintro e w13 ⟨rfl, hb⟩; replace HO_5 := am (Kd.R_below (qR HO_5.out) hb); replace BK1209 := am (blk_below (g := gb1209) (o := .cells #[.slice A0_0 l0_0.length c0_0] 26 (0, 0)) (qb BK1209.out) hb); replace HB := am (below_step qB hb); (try clear hb); (try clear hb2); (try clear hk); (try clear hi)) | ((with_reducible refine gate_builtin (b := .append) (xs := #[.tmp 17, .tmp 19]) rfl ?_); at_builtin; refine Kd.R_append (Kd.int .i64) (w0 := w) w.heap.size rfl (.tmp 17) (.tmp 19) 24 3 (.int .i64 0) 8 rfl Try.underlying24 info3 rfl (by decide) (by omega) u5 x5_1 x11_1 [.int .i64 x11_1] (fun _ => True) (fun _ => False) rfl rfl ?aP (fun _ hk => hk.elim) ?aF ?aO ?aB ?aS ?aL ?_; (case aP => exact rfl); (case aB => exact qB); (case aF => exact (fun _ _ => trivial)); (case aO => exact (qR HO_5.out)); (case aS => exact (below_size qB)); (case aL => have := LMc12.out; omega); intro v1216 w14 ho hb hg hat; rw [← Ny1215.out] at ho; replace BK1209 := am (blk_grown (g := gb1209) (o := .cells #[.slice A0_0 l0_0.length c0_0] 26 (0, 0)) (qb BK1209.out) hg (Kd.R_ne HO_5.out BK1209.out (by decide))); have n1_ := am (hb); have HO1217 := am (ho); clear HB HO_5; have HB := n1_; clear n1_; clear ho hb hg hat))
     go_roundg k1
     case measure => have := HK1.out; omega
     case rel => exact ⟨(y1215), (wrap64 (x11_1 + 1)), qe, H', ⟨by have := HK1.out; omega⟩, ⟨qR HO1217.out⟩, ⟨qb BK1209.out⟩, ⟨qB⟩⟩
    ·replace c11 := Bool.eq_false_iff.mpr c11
     subst c11
     rw [if_neg (show ¬ (false = true) by decide)] at H
     have H' := am H
     clear H
     go_wp2_with ((go_at_call 156; (with_reducible refine (HF.out x11_1 false _ A10.out ?hbl).mono ?_); (case hbl => repeat (first | (with_reducible first | exact HB.out | exact Below.refl _ _ | apply below_alloc | apply pw_below_drewN | apply below_drew1) | exact HB.out | exact Below.refl _ _)); rintro e w15 ⟨rfl, hb⟩; replace HO_5 := am (Kd.R_below (qR HO_5.out) hb); replace BK1209 := am (blk_below (g := gb1209) (o := .cells #[.slice A0_0 l0_0.length c0_0] 26 (0, 0)) (qb BK1209.out) hb); replace HB := am (below_step qB hb); (try clear hb); (try clear hb2); (try clear hk); (try clear hi)))
     go_roundg k1
     case measure => have := HK1.out; omega
     case rel => exact ⟨(x5_1), (wrap64 (x11_1 + 1)), qe, H', ⟨by have := HK1.out; omega⟩, ⟨qR HO_5.out⟩, ⟨qb BK1209.out⟩, ⟨qB⟩⟩
   ·rw [if_neg c9] at H
    have c9b0 := decide_eq_false c9
    clear c9
    obtain rfl := Option.some.inj H
    go_wp2
    go_ret
    exact ⟨_, qr, qR HO_5.out, qB⟩
def impl_size.f (a0 : Int) : Option (Int) := (bits_OnesCount.f (IntKind.u64.wrap (a0))).bind fun t851 => (some t851)
set_option maxHeartbeats 8000000 in
set_option maxRecDepth 100000 in
theorem impl_size.calls (a0 : Int) (r : Int) (w : World) (h : impl_size.f a0 = some r) :
 Calls Try.prog 141 #[.int .i64 a0] w fun e w' => e = .returned (.int .i64 r) ∧ Drawn0 w w' := by
 have H := h
 unfold impl_size.f at H
 clear h
 replace H := Option.bind_eq_some_iff.mp H
 obtain ⟨t851, A20, H⟩ := H
 (try dsimp only at H)
 have A2 := am A20
 clear A20
 obtain rfl := Option.some.inj H
 go_enter Try.func141, Try.ntmps141
 go_wp2_with (((with_reducible refine gate_callee (f := 160) rfl ?_); refine gL (some 5) Try.func160 #[.int .u64 (IntKind.u64.wrap (a0))] ?_; (with_reducible refine (bits_OnesCount.calls (IntKind.u64.wrap (a0)) t851 _ A2.out).mono ?_); rintro e w' ⟨rfl, ⟨nd, rfl⟩⟩; refine ⟨_, rfl, ?_⟩))
 go_ret
 exact ⟨by first | rfl | (simp; done) | (simp [*]; done), by repeat (first | exact Drawn0.refl _ | apply Drawn0.step)⟩
def impl_within.f (a0 : Int) (a1 : Int) (a2 : Int) : Option (Bool) := if a1 ≤ a0 then (some (decide (a0 ≤ a2))) else (some false)
set_option maxHeartbeats 8000000 in
set_option maxRecDepth 100000 in
theorem impl_within.calls (a0 : Int) (a1 : Int) (a2 : Int) (r : Bool) (w : World) (h : impl_within.f a0 a1 a2 = some r) :
 Calls Try.prog 72 #[.int .i64 a0, .int .i64 a1, .int .i64 a2] w fun e w' => e = .returned (.bool r) ∧ Drawn0 w w' := by
 have H := h
 unfold impl_within.f at H
 clear h
 by_cases c4 : a1 ≤ a0
 ·rw [if_pos c4] at H
  have c4b0 := decide_eq_true c4
  clear c4
  obtain rfl := Option.some.inj H
  go_enter Try.func72, Try.ntmps72
  go_wp2
  go_ret
  exact ⟨by first | rfl | (simp; done) | (simp [*]; done), by repeat (first | exact Drawn0.refl _ | apply Drawn0.step)⟩
 ·rw [if_neg c4] at H
  have c4b0 := decide_eq_false c4
  clear c4
  obtain rfl := Option.some.inj H
  go_enter Try.func72, Try.ntmps72
  go_wp2
  go_ret
  exact ⟨by first | rfl | (simp; done) | (simp [*]; done), by repeat (first | exact Drawn0.refl _ | apply Drawn0.step)⟩
def impl_areSides.f (a0 : Int) (a1 : Int) (a2 : Int) : Option (Bool) := (impl_within.f a0 1 a2).bind fun t843 => (if t843 = true then ((impl_within.f a1 1 a2).bind fun t844 => (if t844 = true then (some (decide ((wrap64 (a0 * a1)) ≤ a2))) else (some false))) else (some false))
set_option maxHeartbeats 8000000 in
set_option maxRecDepth 100000 in
theorem impl_areSides.calls (a0 : Int) (a1 : Int) (a2 : Int) (r : Bool) (w : World) (h : impl_areSides.f a0 a1 a2 = some r) :
 Calls Try.prog 109 #[.int .i64 a0, .int .i64 a1, .int .i64 a2] w fun e w' => e = .returned (.bool r) ∧ Drawn0 w w' := by
 have H := h
 unfold impl_areSides.f at H
 clear h
 replace H := Option.bind_eq_some_iff.mp H
 obtain ⟨t843, A40, H⟩ := H
 (try dsimp only at H)
 have A4 := am A40
 clear A40
 by_cases c5 : t843 = true
 ·subst c5
  rw [if_pos rfl] at H
  replace H := Option.bind_eq_some_iff.mp H
  obtain ⟨t844, A60, H⟩ := H
  (try dsimp only at H)
  have A6 := am A60
  clear A60
  by_cases c7 : t844 = true
  ·subst c7
   rw [if_pos rfl] at H
   obtain rfl := Option.some.inj H
   go_enter Try.func109, Try.ntmps109
   go_wp2_with (first | ((with_reducible refine gate_callee (f := 72) rfl ?_); refine gL (some 9) Try.func72 #[.int .i64 a0, .int .i64 1, .int .i64 a2] ?_; (with_reducible refine (impl_within.calls a0 1 a2 true _ A4.out).mono ?_); rintro e w' ⟨rfl, ⟨nd, rfl⟩⟩; refine ⟨_, rfl, ?_⟩) | (go_at_call 72; (with_reducible refine (impl_within.calls a1 1 a2 true _ A6.out).mono ?_); rintro e w' ⟨rfl, ⟨nd, rfl⟩⟩))
   go_ret
   exact ⟨by first | rfl | (simp; done) | (simp [*]; done), by repeat (first | exact Drawn0.refl _ | apply Drawn0.step)⟩
  ·replace c7 := Bool.eq_false_iff.mpr c7
   subst c7
   rw [if_neg (show ¬ (false = true) by decide)] at H
   obtain rfl := Option.some.inj H
   go_enter Try.func109, Try.ntmps109
   go_wp2_with (first | ((with_reducible refine gate_callee (f := 72) rfl ?_); refine gL (some 9) Try.func72 #[.int .i64 a0, .int .i64 1, .int .i64 a2] ?_; (with_reducible refine (impl_within.calls a0 1 a2 true _ A4.out).mono ?_); rintro e w' ⟨rfl, ⟨nd, rfl⟩⟩; refine ⟨_, rfl, ?_⟩) | (go_at_call 72; (with_reducible refine (impl_within.calls a1 1 a2 false _ A6.out).mono ?_); rintro e w' ⟨rfl, ⟨nd, rfl⟩⟩))
   go_ret
   exact ⟨by first | rfl | (simp; done) | (simp [*]; done), by repeat (first | exact Drawn0.refl _ | apply Drawn0.step)⟩
 ·replace c5 := Bool.eq_false_iff.mpr c5
  subst c5
  rw [if_neg (show ¬ (false = true) by decide)] at H
  obtain rfl := Option.some.inj H
  go_enter Try.func109, Try.ntmps109
  go_wp2_with (((with_reducible refine gate_callee (f := 72) rfl ?_); refine gL (some 9) Try.func72 #[.int .i64 a0, .int .i64 1, .int .i64 a2] ?_; (with_reducible refine (impl_within.calls a0 1 a2 false _ A4.out).mono ?_); rintro e w' ⟨rfl, ⟨nd, rfl⟩⟩; refine ⟨_, rfl, ?_⟩))
  go_ret
  exact ⟨by first | rfl | (simp; done) | (simp [*]; done), by repeat (first | exact Drawn0.refl _ | apply Drawn0.step)⟩
def impl_isBound.f (a0 : Int) : Option (Bool) := (impl_within.f a0 0 12).bind fun t285 => (some t285)
set_option maxHeartbeats 8000000 in
set_option maxRecDepth 100000 in
theorem impl_isBound.calls (a0 : Int) (r : Bool) (w : World) (h : impl_isBound.f a0 = some r) :
 Calls Try.prog 69 #[.int .i64 a0] w fun e w' => e = .returned (.bool r) ∧ Drawn0 w w' := by
 have H := h
 unfold impl_isBound.f at H
 clear h
 replace H := Option.bind_eq_some_iff.mp H
 obtain ⟨t285, A20, H⟩ := H
 (try dsimp only at H)
 have A2 := am A20
 clear A20
 obtain rfl := Option.some.inj H
 go_enter Try.func69, Try.ntmps69
 go_wp2_with (((with_reducible refine gate_callee (f := 72) rfl ?_); refine gL (some 4) Try.func72 #[.int .i64 a0, .int .i64 0, .int .i64 12] ?_; (with_reducible refine (impl_within.calls a0 0 12 t285 _ A2.out).mono ?_); rintro e w' ⟨rfl, ⟨nd, rfl⟩⟩; refine ⟨_, rfl, ?_⟩))
 go_ret
 exact ⟨by first | rfl | (simp; done) | (simp [*]; done), by repeat (first | exact Drawn0.refl _ | apply Drawn0.step)⟩
def impl_isOrder.l0 : Nat → Int → List Int → Int → Int → List Int → Option (Bool)
 | 0, _, _, _, _, _ => none
 | k + 1, x5, x8, x9, x10, x1055000 => if x10 < x9 then (if 0 ≤ x10 then (if x10 < (x8.length : Int) then ((impl_Poset_n.f x1055000).bind fun t1057 => ((impl_within.f (rd x8 x10) 0 (wrap64 (t1057 - 1))).bind fun t1058 => (if t1058 = true then ((impl_has.f x5 (rd x8 x10)).bind fun t1059 => (if t1059 = true then (some false) else (if 0 ≤ (rd x8 x10) then (if (rd x8 x10) < (x1055000.length : Int) then (if (Go.bits .andNot .i64 (rd x1055000 (rd x8 x10)) x5) = 0 then (impl_isOrder.l0 k (Go.bits .or .i64 x5 (shl .i64 1 (rd x8 x10))) x8 x9 (wrap64 (x10 + 1)) x1055000) else (some false)) else (none)) else (none)))) else (some false)))) else (none)) else (none)) else ((impl_Poset_all.f x1055000).bind fun t1055 => (some (x5 == t1055)))
def impl_isOrder.f (k : Nat) (l0_0 : List Int) (l1 : List Int) : Option (Bool) := impl_isOrder.l0 k 0 l1 (l1.length : Int) 0 l0_0
theorem impl_isOrder.mono_l : ∀ k, (∀ y0 y1 y2 y3 y4, LeO (impl_isOrder.l0 k y0 y1 y2 y3 y4) (impl_isOrder.l0 (k + 1) y0 y1 y2 y3 y4))
 | 0 => fun _ _ _ _ _ r h => by simp [impl_isOrder.l0] at h
 | k + 1 => by
  have ih0 := impl_isOrder.mono_l k
  ·intro y0 y1 y2 y3 y4
   unfold impl_isOrder.l0
   repeat' first
   | (with_reducible exact LeO.refl _)
   | (with_reducible exact LeO.none _)
   | (with_reducible refine LeO.ite ?_ ?_)
   | (with_reducible refine LeO.bind ?_ (fun _ => ?_))
   | exact ih0 _ _ _ _ _
   | exact LeO.none _
   | refine LeO.ite ?_ ?_
   | refine LeO.bind ?_ (fun _ => ?_)
theorem impl_isOrder.mono : ∀ a0 a1 k, LeO (impl_isOrder.f k a0 a1) (impl_isOrder.f (k + 1) a0 a1) := by
 intro a0 a1 k
 have ih0 := impl_isOrder.mono_l k
 unfold impl_isOrder.f
 repeat' first
  | (with_reducible exact LeO.refl _)
  | (with_reducible exact LeO.none _)
  | (with_reducible refine LeO.ite ?_ ?_)
  | (with_reducible refine LeO.bind ?_ (fun _ => ?_))
  | exact ih0 _ _ _ _ _
  | exact LeO.none _
  | refine LeO.ite ?_ ?_
  | refine LeO.bind ?_ (fun _ => ?_)
set_option maxHeartbeats 8000000 in
set_option maxRecDepth 100000 in
theorem impl_isOrder.calls (k : Nat) (A0_0 : Option Addr) (c0_0 : Nat) (l0_0 : List Int) (A1 : Option Addr) (c1 : Nat) (l1 : List Int) (r : Bool) (w : World) (hr0_0 : Kd.C (Kd.int .i64) w A0_0 l0_0.length l0_0) (hc0_0 : l0_0.length ≤ c0_0) (hr1 : Kd.C (Kd.int .i64) w A1 l1.length l1) (hc1 : l1.length ≤ c1) (h : impl_isOrder.f k l0_0 l1 = some r) :
 Calls Try.prog 150 #[.agg #[.slice A0_0 l0_0.length c0_0], .slice A1 l1.length c1] w fun e w' => e = .returned (.bool r) ∧ Below w.heap.size w w' := by
 have hu26 := Try.underlying26
 have HR0_0 := am hr0_0
 have HC0_0 := am hc0_0
 clear hr0_0 hc0_0
 have HR1 := am hr1
 have HC1 := am hc1
 clear hr1 hc1
 have HB := am (Below.refl w.heap.size w)
 have H := h
 unfold impl_isOrder.f at H
 clear h
 have H' := am H
 clear H
 go_enter Try.func150, Try.ntmps150
 go_wp2_with (((with_reducible refine gate_dst (N := 2) rfl ?_); refine qx (N := 2) (cs := #[.slice A0_0 l0_0.length c0_0]) (t := 26) ?_; intro gb1054 hg w3 hbox hb; have n0_ := am (below_step qB hb); have BK1054 := am (hbox); have GW1054 := am (qg w hg); have GE1054 := am (qg w hg); clear HB; have HB := n0_; clear n0_; clear hb hbox hg))
 go_loopg [5, 10] k (fun kq v5 v10 w' => ∃ (x5_1 : Int) (x10_1 : Int), v5 = .int .i64 x5_1 ∧ v10 = .int .i64 x10_1 ∧ Aside0 (impl_isOrder.l0 kq x5_1 l1 (l1.length : Int) x10_1 l0_0 = some r) ∧ Aside0 (kq ≤ k) ∧ Aside0 (w'.heap[gb1054]? = some (.cells #[(.slice A0_0 l0_0.length c0_0)] 26 (0, 0))) ∧ Aside0 (Below w.heap.size w w'))
 case atStart => exact ⟨(0), (0), qe, qe, H', ⟨Nat.le_refl _⟩, ⟨qb BK1054.out⟩, ⟨qB⟩⟩
 case round =>
  clear H'
  try clear c1
  try clear p2
  obtain ⟨x5_1, x10_1, rfl, rfl, HA, HK1, BK1054, HB⟩ := hrel
  cases gk with
  | zero => exact absurd HA.out (by simp [impl_isOrder.l0])
  | succ k1 =>
   have H := HA.out
   clear HA
   simp only [impl_isOrder.l0] at H
   by_cases c4 : x10_1 < (l1.length : Int)
   ·rw [if_pos c4] at H
    have c4b0 := decide_eq_true c4
    clear c4
    by_cases c5 : 0 ≤ x10_1
    rotate_left
    ·rw [if_neg c5] at H
     exact absurd H (by simp)
    rw [if_pos c5] at H
    have c5b0 := decide_eq_true c5
    clear c5
    by_cases c6 : x10_1 < (l1.length : Int)
    rotate_left
    ·rw [if_neg c6] at H
     exact absurd H (by simp)
    rw [if_pos c6] at H
    have c6b0 := decide_eq_true c6
    clear c6
    replace H := Option.bind_eq_some_iff.mp H
    obtain ⟨t1057, A70, H⟩ := H
    (try dsimp only at H)
    have A7 := am A70
    clear A70
    replace H := Option.bind_eq_some_iff.mp H
    obtain ⟨t1058, A80, H⟩ := H
    (try dsimp only at H)
    have A8 := am A80
    clear A80
    by_cases c9 : t1058 = true
    ·subst c9
     rw [if_pos rfl] at H
     replace H := Option.bind_eq_some_iff.mp H
     obtain ⟨t1059, A100, H⟩ := H
     (try dsimp only at H)
     have A10 := am A100
     clear A100
     by_cases c11 : t1059 = true
     ·subst c11
      rw [if_pos rfl] at H
      obtain rfl := Option.some.inj H
      have p1056 : 0 ≤ (x10_1 : Int) := qd
      have q1056 : x10_1 < (l1.length : Int) := qd
      obtain ⟨ad1056, e1056, hx1056_0⟩ := Kd.at_int HR1.out x10_1 p1056 q1056
      cases e1056
      replace hx1056_0 := (HB.out.cell (World.block_lt_of_cell? w _ hx1056_0)).trans hx1056_0
      replace p1056 := eq_true p1056
      replace q1056 := eq_true q1056
      have hcz12_0 := qz wr BK1054.out
      have hfz12_0 := blk_frozen BK1054.out 0
      go_wp2_with (first | ((with_reducible refine gate_callee (f := 101) rfl ?_); refine gL (some 16) Try.func101 #[.agg #[.slice A0_0 l0_0.length c0_0]] ?_; (with_reducible refine (impl_Poset_n.calls _ _ l0_0 t1057 _ ?side1 ?side2 A7.out).mono ?_); (case side1 => exact qC (Kd.C_below HR0_0.out HB.out)); (case side2 => exact HC0_0.out); rintro e w13 ⟨rfl, hb⟩; refine ⟨_, rfl, ?_⟩; replace BK1054 := am (blk_below (g := gb1054) (o := .cells #[.slice A0_0 l0_0.length c0_0] 26 (0, 0)) (qb BK1054.out) hb); replace HB := am (below_step qB hb); (try clear hb); (try clear hb2); (try clear hk); (try clear hi)) | ((with_reducible refine gate_callee (f := 72) rfl ?_); refine gL (some 18) Try.func72 #[.int .i64 (rd l1 x10_1), .int .i64 0, .int .i64 (wrap64 (t1057 - 1))] ?_; (with_reducible refine (impl_within.calls (rd l1 x10_1) 0 (wrap64 (t1057 - 1)) true _ A8.out).mono ?_); rintro e w' ⟨rfl, ⟨nd, rfl⟩⟩; refine ⟨_, rfl, ?_⟩) | (go_at_call 136; (with_reducible refine (impl_has.calls x5_1 (rd l1 x10_1) true _ A10.out).mono ?_); rintro e w' ⟨rfl, ⟨nd, rfl⟩⟩))
      go_ret
      exact ⟨qr, qB⟩
     ·replace c11 := Bool.eq_false_iff.mpr c11
      subst c11
      rw [if_neg (show ¬ (false = true) by decide)] at H
      by_cases c14 : 0 ≤ (rd l1 x10_1)
      rotate_left
      ·rw [if_neg c14] at H
       exact absurd H (by simp)
      rw [if_pos c14] at H
      have c14b0 := decide_eq_true c14
      clear c14
      by_cases c15 : (rd l1 x10_1) < (l0_0.length : Int)
      rotate_left
      ·rw [if_neg c15] at H
       exact absurd H (by simp)
      rw [if_pos c15] at H
      have c15b0 := decide_eq_true c15
      clear c15
      by_cases c16 : (Go.bits .andNot .i64 (rd l0_0 (rd l1 x10_1)) x5_1) = 0
      ·rw [if_pos c16] at H
       have c16b0 : ((Go.bits .andNot .i64 (rd l0_0 (rd l1 x10_1)) x5_1) == 0) = true := beq_iff_eq.mpr c16
       have c16b1 : ((Go.bits .andNot .i64 (rd l0_0 (rd l1 x10_1)) x5_1) != 0) = false := bne_eq_false_iff_eq.mpr c16
       clear c16
       have c17b0 := eq_true (qd : 0 ≤ (rd l1 x10_1))
       obtain ⟨ji18, hji18⟩ : ∃ j_ : Int, (shl .i64 1 (rd l1 x10_1)) = j_ := ⟨_, rfl⟩
       first | rw [hji18] at H | simp only [hji18] at H
       (try rw [hji18] at A7)
       (try rw [hji18] at A8)
       (try rw [hji18] at A10)
       have hji18_ : (IntKind.i64.wrap (1 * 2 ^ min (rd l1 x10_1).toNat 64)) = ji18 := hji18
       have hji18z : (rd l1 x10_1) ≤ 64 → (IntKind.i64.wrap (1 * 2 ^ (rd l1 x10_1).toNat)) = ji18 := shl_small hji18
       have hji18u : (IntKind.i64.wrap (2 ^ min (rd l1 x10_1).toNat 64)) = ji18 := by have h_ := hji18_; rw [Int.one_mul] at h_; exact h_
       have hji18v : (rd l1 x10_1) ≤ 64 → (IntKind.i64.wrap (2 ^ (rd l1 x10_1).toNat)) = ji18 := fun hle_ => by have h_ := hji18z hle_; rw [Int.one_mul] at h_; exact h_
       have hji18y : (wrap64 (1 * 2 ^ min (rd l1 x10_1).toNat 64)) = ji18 := (i64_w _).symm.trans hji18_
       have hji18x : (rd l1 x10_1) ≤ 64 → (wrap64 (1 * 2 ^ (rd l1 x10_1).toNat)) = ji18 := fun h_ => (i64_w _).symm.trans (hji18z h_)
       have H' := am H
       clear H
       have p1056 : 0 ≤ (x10_1 : Int) := qd
       have q1056 : x10_1 < (l1.length : Int) := qd
       obtain ⟨ad1056, e1056, hx1056_0⟩ := Kd.at_int HR1.out x10_1 p1056 q1056
       cases e1056
       replace hx1056_0 := (HB.out.cell (World.block_lt_of_cell? w _ hx1056_0)).trans hx1056_0
       replace p1056 := eq_true p1056
       replace q1056 := eq_true q1056
       have hcz19_0 := qz wr BK1054.out
       have hfz19_0 := blk_frozen BK1054.out 0
       go_wp2_with (first | ((with_reducible refine gate_callee (f := 101) rfl ?_); refine gL (some 16) Try.func101 #[.agg #[.slice A0_0 l0_0.length c0_0]] ?_; (with_reducible refine (impl_Poset_n.calls _ _ l0_0 t1057 _ ?side1 ?side2 A7.out).mono ?_); (case side1 => exact qC (Kd.C_below HR0_0.out HB.out)); (case side2 => exact HC0_0.out); rintro e w20 ⟨rfl, hb⟩; refine ⟨_, rfl, ?_⟩; replace BK1054 := am (blk_below (g := gb1054) (o := .cells #[.slice A0_0 l0_0.length c0_0] 26 (0, 0)) (qb BK1054.out) hb); replace HB := am (below_step qB hb); (try clear hb); (try clear hb2); (try clear hk); (try clear hi)) | ((with_reducible refine gate_callee (f := 72) rfl ?_); refine gL (some 18) Try.func72 #[.int .i64 (rd l1 x10_1), .int .i64 0, .int .i64 (wrap64 (t1057 - 1))] ?_; (with_reducible refine (impl_within.calls (rd l1 x10_1) 0 (wrap64 (t1057 - 1)) true _ A8.out).mono ?_); rintro e w' ⟨rfl, ⟨nd, rfl⟩⟩; refine ⟨_, rfl, ?_⟩) | (go_at_call 136; (with_reducible refine (impl_has.calls x5_1 (rd l1 x10_1) false _ A10.out).mono ?_); rintro e w' ⟨rfl, ⟨nd, rfl⟩⟩; have hcz21_0 := qz w20 BK1054.out; have hfz21_0 := blk_frozen BK1054.out 0; have p1060 : 0 ≤ ((rd l1 x10_1) : Int) := qd; have q1060 : (rd l1 x10_1) < (l0_0.length : Int) := qd; obtain ⟨ad1060, e1060, hx1060_0⟩ := Kd.at_int HR0_0.out (rd l1 x10_1) p1060 q1060; cases e1060; replace hx1060_0 := (HB.out.cell (World.block_lt_of_cell? w _ hx1060_0)).trans hx1060_0; replace p1060 := eq_true p1060; replace q1060 := eq_true q1060))
       go_roundg k1
       case measure => have := HK1.out; omega
       case rel => exact ⟨(Go.bits .or .i64 x5_1 (ji18)), (wrap64 (x10_1 + 1)), (by first | rfl | (simp; done) | (simp only [← hji18] <;> (first | rfl | simp)) | (simp [*]; done)), qe, H', ⟨by have := HK1.out; omega⟩, ⟨qb BK1054.out⟩, ⟨qB⟩⟩
      ·rw [if_neg c16] at H
       have c16b0 : ((Go.bits .andNot .i64 (rd l0_0 (rd l1 x10_1)) x5_1) == 0) = false := beq_eq_false_iff_ne.mpr c16
       have c16b1 : ((Go.bits .andNot .i64 (rd l0_0 (rd l1 x10_1)) x5_1) != 0) = true := bne_iff_ne.mpr c16
       obtain rfl := Option.some.inj H
       have p1056 : 0 ≤ (x10_1 : Int) := qd
       have q1056 : x10_1 < (l1.length : Int) := qd
       obtain ⟨ad1056, e1056, hx1056_0⟩ := Kd.at_int HR1.out x10_1 p1056 q1056
       cases e1056
       replace hx1056_0 := (HB.out.cell (World.block_lt_of_cell? w _ hx1056_0)).trans hx1056_0
       replace p1056 := eq_true p1056
       replace q1056 := eq_true q1056
       have hcz22_0 := qz wr BK1054.out
       have hfz22_0 := blk_frozen BK1054.out 0
       go_wp2_with (first | ((with_reducible refine gate_callee (f := 101) rfl ?_); refine gL (some 16) Try.func101 #[.agg #[.slice A0_0 l0_0.length c0_0]] ?_; (with_reducible refine (impl_Poset_n.calls _ _ l0_0 t1057 _ ?side1 ?side2 A7.out).mono ?_); (case side1 => exact qC (Kd.C_below HR0_0.out HB.out)); (case side2 => exact HC0_0.out); rintro e w23 ⟨rfl, hb⟩; refine ⟨_, rfl, ?_⟩; replace BK1054 := am (blk_below (g := gb1054) (o := .cells #[.slice A0_0 l0_0.length c0_0] 26 (0, 0)) (qb BK1054.out) hb); replace HB := am (below_step qB hb); (try clear hb); (try clear hb2); (try clear hk); (try clear hi)) | ((with_reducible refine gate_callee (f := 72) rfl ?_); refine gL (some 18) Try.func72 #[.int .i64 (rd l1 x10_1), .int .i64 0, .int .i64 (wrap64 (t1057 - 1))] ?_; (with_reducible refine (impl_within.calls (rd l1 x10_1) 0 (wrap64 (t1057 - 1)) true _ A8.out).mono ?_); rintro e w' ⟨rfl, ⟨nd, rfl⟩⟩; refine ⟨_, rfl, ?_⟩) | (go_at_call 136; (with_reducible refine (impl_has.calls x5_1 (rd l1 x10_1) false _ A10.out).mono ?_); rintro e w' ⟨rfl, ⟨nd, rfl⟩⟩; have hcz24_0 := qz w23 BK1054.out; have hfz24_0 := blk_frozen BK1054.out 0; have p1060 : 0 ≤ ((rd l1 x10_1) : Int) := qd; have q1060 : (rd l1 x10_1) < (l0_0.length : Int) := qd; obtain ⟨ad1060, e1060, hx1060_0⟩ := Kd.at_int HR0_0.out (rd l1 x10_1) p1060 q1060; cases e1060; replace hx1060_0 := (HB.out.cell (World.block_lt_of_cell? w _ hx1060_0)).trans hx1060_0; replace p1060 := eq_true p1060; replace q1060 := eq_true q1060))
       go_ret
       exact ⟨qr, qB⟩
    ·replace c9 := Bool.eq_false_iff.mpr c9
     subst c9
     rw [if_neg (show ¬ (false = true) by decide)] at H
     obtain rfl := Option.some.inj H
     have p1056 : 0 ≤ (x10_1 : Int) := qd
     have q1056 : x10_1 < (l1.length : Int) := qd
     obtain ⟨ad1056, e1056, hx1056_0⟩ := Kd.at_int HR1.out x10_1 p1056 q1056
     cases e1056
     replace hx1056_0 := (HB.out.cell (World.block_lt_of_cell? w _ hx1056_0)).trans hx1056_0
     replace p1056 := eq_true p1056
     replace q1056 := eq_true q1056
     have hcz25_0 := qz wr BK1054.out
     have hfz25_0 := blk_frozen BK1054.out 0
     go_wp2_with (first | ((with_reducible refine gate_callee (f := 101) rfl ?_); refine gL (some 16) Try.func101 #[.agg #[.slice A0_0 l0_0.length c0_0]] ?_; (with_reducible refine (impl_Poset_n.calls _ _ l0_0 t1057 _ ?side1 ?side2 A7.out).mono ?_); (case side1 => exact qC (Kd.C_below HR0_0.out HB.out)); (case side2 => exact HC0_0.out); rintro e w26 ⟨rfl, hb⟩; refine ⟨_, rfl, ?_⟩; replace BK1054 := am (blk_below (g := gb1054) (o := .cells #[.slice A0_0 l0_0.length c0_0] 26 (0, 0)) (qb BK1054.out) hb); replace HB := am (below_step qB hb); (try clear hb); (try clear hb2); (try clear hk); (try clear hi)) | ((with_reducible refine gate_callee (f := 72) rfl ?_); refine gL (some 18) Try.func72 #[.int .i64 (rd l1 x10_1), .int .i64 0, .int .i64 (wrap64 (t1057 - 1))] ?_; (with_reducible refine (impl_within.calls (rd l1 x10_1) 0 (wrap64 (t1057 - 1)) false _ A8.out).mono ?_); rintro e w' ⟨rfl, ⟨nd, rfl⟩⟩; refine ⟨_, rfl, ?_⟩))
     go_ret
     exact ⟨qr, qB⟩
   ·rw [if_neg c4] at H
    have c4b0 := decide_eq_false c4
    clear c4
    replace H := Option.bind_eq_some_iff.mp H
    obtain ⟨t1055, A270, H⟩ := H
    (try dsimp only at H)
    have A27 := am A270
    clear A270
    obtain rfl := Option.some.inj H
    have hcz28_0 := qz wr BK1054.out
    have hfz28_0 := blk_frozen BK1054.out 0
    go_wp2_with (((with_reducible refine gate_callee (f := 114) rfl ?_); refine gL (some 42) Try.func114 #[.agg #[.slice A0_0 l0_0.length c0_0]] ?_; (with_reducible refine (impl_Poset_all.calls _ _ l0_0 t1055 _ ?side1 ?side2 A27.out).mono ?_); (case side1 => exact qC (Kd.C_below HR0_0.out HB.out)); (case side2 => exact HC0_0.out); rintro e w29 ⟨rfl, hb⟩; refine ⟨_, rfl, ?_⟩; replace BK1054 := am (blk_below (g := gb1054) (o := .cells #[.slice A0_0 l0_0.length c0_0] 26 (0, 0)) (qb BK1054.out) hb); replace HB := am (below_step qB hb); (try clear hb); (try clear hb2); (try clear hk); (try clear hi)))
    go_ret
    exact ⟨qr, qB⟩
mutual
def impl_IsPoset.l0 : Nat → List Int → Int → Int → List Int → Option (Bool)
 | 0, _, _, _, _ => none
 | k + 1, x12, x13, x14, x276000 => if x14 < x13 then (if 0 ≤ x14 then (if x14 < (x12.length : Int) then ((impl_within.f (rd x12 x14) 0 (wrap64 ((shl .i64 1 x14) - 1))).bind fun t279 => (if t279 = true then ((impl_items.f k (rd x12 x14)).bind fun t280 => (impl_IsPoset.l1 k (rd x12 x14) x12 x13 x14 t280 (t280.length : Int) 0 x276000)) else (some false))) else (none)) else (none)) else (some true)
def impl_IsPoset.l1 : Nat → Int → List Int → Int → Int → List Int → Int → Int → List Int → Option (Bool)
 | 0, _, _, _, _, _, _, _, _ => none
 | k + 1, x4, x12, x13, x14, x26, x27, x28, x276000 => if x28 < x27 then (if 0 ≤ x28 then (if x28 < (x26.length : Int) then (if 0 ≤ (rd x26 x28) then (if (rd x26 x28) < (x276000.length : Int) then (if (Go.bits .andNot .i64 (rd x276000 (rd x26 x28)) x4) = 0 then (impl_IsPoset.l1 k x4 x12 x13 x14 x26 x27 (wrap64 (x28 + 1)) x276000) else (some false)) else (none)) else (none)) else (none)) else (none)) else (impl_IsPoset.l0 k x12 x13 (wrap64 (x14 + 1)) x276000)
end
def impl_IsPoset.f (k : Nat) (l0_0 : List Int) : Option (Bool) := (impl_Poset_n.f l0_0).bind fun t276 => ((impl_within.f t276 1 10).bind fun t277 => (if t277 = true then (impl_IsPoset.l0 k l0_0 (l0_0.length : Int) 0 l0_0) else (some false)))
theorem impl_IsPoset.mono_l : ∀ k, (∀ y0 y1 y2 y3, LeO (impl_IsPoset.l0 k y0 y1 y2 y3) (impl_IsPoset.l0 (k + 1) y0 y1 y2 y3)) ∧ (∀ y0 y1 y2 y3 y4 y5 y6 y7, LeO (impl_IsPoset.l1 k y0 y1 y2 y3 y4 y5 y6 y7) (impl_IsPoset.l1 (k + 1) y0 y1 y2 y3 y4 y5 y6 y7))
 | 0 => ⟨fun _ _ _ _ r h => by simp [impl_IsPoset.l0] at h, fun _ _ _ _ _ _ _ _ r h => by simp [impl_IsPoset.l1] at h⟩
 | k + 1 => by
  obtain ⟨ih0, ih1⟩ := impl_IsPoset.mono_l k
  refine ⟨?_, ?_⟩
  ·intro y0 y1 y2 y3
   unfold impl_IsPoset.l0
   repeat' first
   | (with_reducible exact impl_items.mono _ _)
   | (with_reducible exact LeO.refl _)
   | (with_reducible exact LeO.none _)
   | (with_reducible refine LeO.ite ?_ ?_)
   | (with_reducible refine LeO.bind ?_ (fun _ => ?_))
   | exact ih0 _ _ _ _
   | exact ih1 _ _ _ _ _ _ _ _
   | exact impl_items.mono _ _
   | exact LeO.none _
   | refine LeO.ite ?_ ?_
   | refine LeO.bind ?_ (fun _ => ?_)
  ·intro y0 y1 y2 y3 y4 y5 y6 y7
   unfold impl_IsPoset.l1
   repeat' first
   | (with_reducible exact impl_items.mono _ _)
   | (with_reducible exact LeO.refl _)
   | (with_reducible exact LeO.none _)
   | (with_reducible refine LeO.ite ?_ ?_)
   | (with_reducible refine LeO.bind ?_ (fun _ => ?_))
   | exact ih0 _ _ _ _
   | exact ih1 _ _ _ _ _ _ _ _
   | exact impl_items.mono _ _
   | exact LeO.none _
   | refine LeO.ite ?_ ?_
   | refine LeO.bind ?_ (fun _ => ?_)
theorem impl_IsPoset.mono : ∀ a0 k, LeO (impl_IsPoset.f k a0) (impl_IsPoset.f (k + 1) a0) := by
 intro a0 k
 obtain ⟨ih0, ih1⟩ := impl_IsPoset.mono_l k
 unfold impl_IsPoset.f
 repeat' first
  | (with_reducible exact impl_items.mono _ _)
  | (with_reducible exact LeO.refl _)
  | (with_reducible exact LeO.none _)
  | (with_reducible refine LeO.ite ?_ ?_)
  | (with_reducible refine LeO.bind ?_ (fun _ => ?_))
  | exact ih0 _ _ _ _
  | exact ih1 _ _ _ _ _ _ _ _
  | exact impl_items.mono _ _
  | exact LeO.none _
  | refine LeO.ite ?_ ?_
  | refine LeO.bind ?_ (fun _ => ?_)
set_option maxHeartbeats 8000000 in
set_option maxRecDepth 100000 in
theorem impl_IsPoset.calls (k : Nat) (A0_0 : Option Addr) (c0_0 : Nat) (l0_0 : List Int) (r : Bool) (w : World) (hr0_0 : Kd.C (Kd.int .i64) w A0_0 l0_0.length l0_0) (hc0_0 : l0_0.length ≤ c0_0) (h : impl_IsPoset.f k l0_0 = some r) :
 Calls Try.prog 40 #[.agg #[.slice A0_0 l0_0.length c0_0]] w fun e w' => e = .returned (.bool r) ∧ Below w.heap.size w w' := by
 have hu26 := Try.underlying26
 have HR0_0 := am hr0_0
 have HC0_0 := am hc0_0
 clear hr0_0 hc0_0
 have HB := am (Below.refl w.heap.size w)
 have H := h
 unfold impl_IsPoset.f at H
 clear h
 replace H := Option.bind_eq_some_iff.mp H
 obtain ⟨t276, A20, H⟩ := H
 (try dsimp only at H)
 have A2 := am A20
 clear A20
 replace H := Option.bind_eq_some_iff.mp H
 obtain ⟨t277, A30, H⟩ := H
 (try dsimp only at H)
 have A3 := am A30
 clear A30
 by_cases c4 : t277 = true
 ·subst c4
  rw [if_pos rfl] at H
  have H' := am H
  clear H
  go_enter Try.func40, Try.ntmps40
  go_wp2_with (first | ((with_reducible refine gate_dst (N := 1) rfl ?_); refine qx (N := 1) (cs := #[.slice A0_0 l0_0.length c0_0]) (t := 26) ?_; intro gb275 hg w5 hbox hb; have n0_ := am (below_step qB hb); have BK275 := am (hbox); have GW275 := am (qg w hg); have GE275 := am (qg w hg); clear HB; have HB := n0_; clear n0_; clear hb hbox hg; have hcz6_0 := qz w5 BK275.out; have hfz6_0 := blk_frozen BK275.out 0) | ((with_reducible refine gate_callee (f := 101) rfl ?_); refine gL (some 8) Try.func101 #[.agg #[.slice A0_0 l0_0.length c0_0]] ?_; (with_reducible refine (impl_Poset_n.calls _ _ l0_0 t276 _ ?side1 ?side2 A2.out).mono ?_); (case side1 => exact qC (Kd.C_below HR0_0.out HB.out)); (case side2 => exact HC0_0.out); rintro e w7 ⟨rfl, hb⟩; refine ⟨_, rfl, ?_⟩; replace BK275 := am (blk_below (g := gb275) (o := .cells #[.slice A0_0 l0_0.length c0_0] 26 (0, 0)) (qb BK275.out) hb); replace HB := am (below_step qB hb); (try clear hb); (try clear hb2); (try clear hk); (try clear hi)) | ((with_reducible refine gate_callee (f := 72) rfl ?_); refine gL (some 9) Try.func72 #[.int .i64 t276, .int .i64 1, .int .i64 10] ?_; (with_reducible refine (impl_within.calls t276 1 10 true _ A3.out).mono ?_); rintro e w' ⟨rfl, ⟨nd, rfl⟩⟩; refine ⟨_, rfl, ?_⟩; have hcz8_0 := qz w7 BK275.out; have hfz8_0 := blk_frozen BK275.out 0))
  go_loopg [14] k (fun kq v14 w' => ∃ (x14_1 : Int), v14 = .int .i64 x14_1 ∧ Aside0 (impl_IsPoset.l0 kq l0_0 (l0_0.length : Int) x14_1 l0_0 = some r) ∧ Aside0 (kq ≤ k) ∧ Aside0 (w'.heap[gb275]? = some (.cells #[(.slice A0_0 l0_0.length c0_0)] 26 (0, 0))) ∧ Aside0 (Below w.heap.size w w'))
  case atStart => exact ⟨(0), qe, H', ⟨Nat.le_refl _⟩, ⟨qb BK275.out⟩, ⟨qB⟩⟩
  case round =>
   clear H'
   try clear c1
   try clear p2
   try clear c4
   try clear c7
   try clear hcz6_0
   try clear hcz8_0
   try clear hfz6_0
   try clear hfz8_0
   obtain ⟨x14_1, rfl, HA, HK1, BK275, HB⟩ := hrel
   cases gk with
   | zero => exact absurd HA.out (by simp [impl_IsPoset.l0])
   | succ k1 =>
    have H := HA.out
    clear HA
    simp only [impl_IsPoset.l0] at H
    by_cases c9 : x14_1 < (l0_0.length : Int)
    ·rw [if_pos c9] at H
     have c9b0 := decide_eq_true c9
     clear c9
     by_cases c10 : 0 ≤ x14_1
     rotate_left
     ·rw [if_neg c10] at H
      exact absurd H (by simp)
     rw [if_pos c10] at H
     have c10b0 := decide_eq_true c10
     clear c10
     by_cases c11 : x14_1 < (l0_0.length : Int)
     rotate_left
     ·rw [if_neg c11] at H
      exact absurd H (by simp)
     rw [if_pos c11] at H
     have c11b0 := decide_eq_true c11
     clear c11
     have c12b0 := eq_true (qd : 0 ≤ x14_1)
     obtain ⟨ji13, hji13⟩ : ∃ j_ : Int, (shl .i64 1 x14_1) = j_ := ⟨_, rfl⟩
     first | rw [hji13] at H | simp only [hji13] at H
     have hji13_ : (IntKind.i64.wrap (1 * 2 ^ min x14_1.toNat 64)) = ji13 := hji13
     have hji13z : x14_1 ≤ 64 → (IntKind.i64.wrap (1 * 2 ^ x14_1.toNat)) = ji13 := shl_small hji13
     have hji13u : (IntKind.i64.wrap (2 ^ min x14_1.toNat 64)) = ji13 := by have h_ := hji13_; rw [Int.one_mul] at h_; exact h_
     have hji13v : x14_1 ≤ 64 → (IntKind.i64.wrap (2 ^ x14_1.toNat)) = ji13 := fun hle_ => by have h_ := hji13z hle_; rw [Int.one_mul] at h_; exact h_
     have hji13y : (wrap64 (1 * 2 ^ min x14_1.toNat 64)) = ji13 := (i64_w _).symm.trans hji13_
     have hji13x : x14_1 ≤ 64 → (wrap64 (1 * 2 ^ x14_1.toNat)) = ji13 := fun h_ => (i64_w _).symm.trans (hji13z h_)
     replace H := Option.bind_eq_some_iff.mp H
     obtain ⟨t279, A140, H⟩ := H
     (try dsimp only at H)
     have A14 := am A140
     clear A140
     by_cases c15 : t279 = true
     ·subst c15
      rw [if_pos rfl] at H
      replace H := Option.bind_eq_some_iff.mp H
      obtain ⟨t280, A160, H⟩ := H
      (try dsimp only at H)
      have A16 := am A160
      clear A160
      have H' := am H
      clear H
      have p278 : 0 ≤ (x14_1 : Int) := qd
      have q278 : x14_1 < (l0_0.length : Int) := qd
      obtain ⟨ad278, e278, hx278_0⟩ := Kd.at_int HR0_0.out x14_1 p278 q278
      cases e278
      replace hx278_0 := (HB.out.cell (World.block_lt_of_cell? w _ hx278_0)).trans hx278_0
      replace p278 := eq_true p278
      replace q278 := eq_true q278
      go_wp2_with (first | ((with_reducible refine gate_callee (f := 72) rfl ?_); refine goesL_ (some 23) rfl rfl Try.func72 (by kernel_rfl) rfl #[.int .i64 (rd l0_0 x14_1), .int .i64 0, .int .i64 (wrap64 ((ji13) - 1))] rfl (by (try simp only [List.map_toArray, List.map_cons, List.map_nil]); first | done | (simp only [hji13]; rfl) | rfl | (simp only [List.length_drop, List.length_take]; rfl)) ?_; (with_reducible refine (impl_within.calls (rd l0_0 x14_1) 0 (wrap64 ((ji13) - 1)) true _ A14.out).mono ?_); rintro e w' ⟨rfl, ⟨nd, rfl⟩⟩; refine ⟨_, rfl, ?_⟩) | ((with_reducible refine gate_callee (f := 102) rfl ?_); refine gL (some 26) Try.func102 #[.int .i64 (rd l0_0 x14_1)] ?_; (with_reducible refine (impl_items.calls k1 (rd l0_0 x14_1) t280 _ A16.out).mono ?_); rintro e w17 ⟨v281, rfl, ho0, hb⟩; refine ⟨_, rfl, ?_⟩; have HO282 := am (Kd.R_lower ho0 (below_size qB)); replace BK275 := am (blk_below (g := gb275) (o := .cells #[.slice (some ad278) l0_0.length c0_0] 26 (0, 0)) (qb BK275.out) hb); replace HB := am (below_step qB hb); (try clear hb); (try clear hb2); (try clear hk); (try clear hi); (try clear ho0); obtain ⟨Ao18, co18, eo18⟩ := Kd.R_slice HO282.out; subst eo18))
      go_loopg [28] k1 (fun kq v28 w' => ∃ (x28_2 : Int), v28 = .int .i64 x28_2 ∧ Aside0 (impl_IsPoset.l1 kq (rd l0_0 x14_1) l0_0 (l0_0.length : Int) x14_1 t280 (t280.length : Int) x28_2 l0_0 = some r) ∧ Aside0 (kq ≤ k1) ∧ Aside0 (Kd.R (Kd.int .i64) 3 w' w.heap.size (fun _ => True) (.slice Ao18 t280.length co18) t280) ∧ Aside0 (w'.heap[gb275]? = some (.cells #[(.slice (some ad278) l0_0.length c0_0)] 26 (0, 0))) ∧ Aside0 (Below w.heap.size w w'))
      case atStart => exact ⟨(0), qe, H', ⟨Nat.le_refl _⟩, ⟨qR HO282.out⟩, ⟨qb BK275.out⟩, ⟨qB⟩⟩
      case round =>
       clear H'
       try clear c1
       try clear p2
       try clear q2
       try clear hx2
       try clear c4
       try clear p6
       try clear c7
       try clear c9
       try clear c9b0
       try clear c10
       try clear c10b0
       try clear c11
       try clear c11b0
       try clear c12
       try clear c12b0
       try clear c15
       try clear hcz6_0
       try clear hcz8_0
       try clear hfz6_0
       try clear hfz8_0
       try clear hx278_0
       try clear p2
       try clear p278
       try clear q278
       obtain ⟨x28_2, rfl, HA, HK2, HO_26, BK275, HB⟩ := hrel
       cases gk with
       | zero => exact absurd HA.out (by simp [impl_IsPoset.l1])
       | succ k2 =>
        have H := HA.out
        clear HA
        simp only [impl_IsPoset.l1] at H
        by_cases c19 : x28_2 < (t280.length : Int)
        ·rw [if_pos c19] at H
         have c19b0 := decide_eq_true c19
         clear c19
         by_cases c20 : 0 ≤ x28_2
         rotate_left
         ·rw [if_neg c20] at H
          exact absurd H (by simp)
         rw [if_pos c20] at H
         have c20b0 := decide_eq_true c20
         clear c20
         by_cases c21 : x28_2 < (t280.length : Int)
         rotate_left
         ·rw [if_neg c21] at H
          exact absurd H (by simp)
         rw [if_pos c21] at H
         have c21b0 := decide_eq_true c21
         clear c21
         by_cases c22 : 0 ≤ (rd t280 x28_2)
         rotate_left
         ·rw [if_neg c22] at H
          exact absurd H (by simp)
         rw [if_pos c22] at H
         have c22b0 := decide_eq_true c22
         clear c22
         by_cases c23 : (rd t280 x28_2) < (l0_0.length : Int)
         rotate_left
         ·rw [if_neg c23] at H
          exact absurd H (by simp)
         rw [if_pos c23] at H
         have c23b0 := decide_eq_true c23
         clear c23
         by_cases c24 : (Go.bits .andNot .i64 (rd l0_0 (rd t280 x28_2)) (rd l0_0 x14_1)) = 0
         ·rw [if_pos c24] at H
          have c24b0 : ((Go.bits .andNot .i64 (rd l0_0 (rd t280 x28_2)) (rd l0_0 x14_1)) == 0) = true := beq_iff_eq.mpr c24
          have c24b1 : ((Go.bits .andNot .i64 (rd l0_0 (rd t280 x28_2)) (rd l0_0 x14_1)) != 0) = false := bne_eq_false_iff_eq.mpr c24
          clear c24
          have H' := am H
          clear H
          have p283 : 0 ≤ (x28_2 : Int) := qd
          have q283 : x28_2 < (t280.length : Int) := qd
          obtain ⟨ad283, e283, hx283_0⟩ := Kd.at_int (Kd.R_reads' HO_26.out).2.2 x28_2 p283 q283
          cases e283
          replace p283 := eq_true p283
          replace q283 := eq_true q283
          have hcz25_0 := qz wr BK275.out
          have hfz25_0 := blk_frozen BK275.out 0
          have p284 : 0 ≤ ((rd t280 x28_2) : Int) := qd
          have q284 : (rd t280 x28_2) < (l0_0.length : Int) := qd
          obtain ⟨ad284, e284, hx284_0⟩ := Kd.at_int HR0_0.out (rd t280 x28_2) p284 q284
          obtain rfl : ad278 = ad284 := (by injection e284)
          replace hx284_0 := (HB.out.cell (World.block_lt_of_cell? w _ hx284_0)).trans hx284_0
          replace p284 := eq_true p284
          replace q284 := eq_true q284
          go_wp2
          go_roundg k2
          case measure => have := HK1.out; have := HK2.out; omega
          case rel => exact ⟨(wrap64 (x28_2 + 1)), qe, H', ⟨by have := HK1.out; have := HK2.out; omega⟩, ⟨qR HO_26.out⟩, ⟨qb BK275.out⟩, ⟨qB⟩⟩
         ·rw [if_neg c24] at H
          have c24b0 : ((Go.bits .andNot .i64 (rd l0_0 (rd t280 x28_2)) (rd l0_0 x14_1)) == 0) = false := beq_eq_false_iff_ne.mpr c24
          have c24b1 : ((Go.bits .andNot .i64 (rd l0_0 (rd t280 x28_2)) (rd l0_0 x14_1)) != 0) = true := bne_iff_ne.mpr c24
          obtain rfl := Option.some.inj H
          have p283 : 0 ≤ (x28_2 : Int) := qd
          have q283 : x28_2 < (t280.length : Int) := qd
          obtain ⟨ad283, e283, hx283_0⟩ := Kd.at_int (Kd.R_reads' HO_26.out).2.2 x28_2 p283 q283
          cases e283
          replace p283 := eq_true p283
          replace q283 := eq_true q283
          have hcz26_0 := qz wr BK275.out
          have hfz26_0 := blk_frozen BK275.out 0
          have p284 : 0 ≤ ((rd t280 x28_2) : Int) := qd
          have q284 : (rd t280 x28_2) < (l0_0.length : Int) := qd
          obtain ⟨ad284, e284, hx284_0⟩ := Kd.at_int HR0_0.out (rd t280 x28_2) p284 q284
          obtain rfl : ad278 = ad284 := (by injection e284)
          replace hx284_0 := (HB.out.cell (World.block_lt_of_cell? w _ hx284_0)).trans hx284_0
          replace p284 := eq_true p284
          replace q284 := eq_true q284
          go_wp2
          go_ret
          exact ⟨by first | rfl | (simp [errW_none, errW_some] <;> rfl) | (simp only [← hji13]; first | rfl | (simp [errW_none, errW_some] <;> rfl)) | (simp [*, errW_none, errW_some] <;> rfl), qB⟩
        ·rw [if_neg c19] at H
         have c19b0 := decide_eq_false c19
         clear c19
         have H' := am H
         clear H
         go_wp2
         go_roundg k2
         case measure => have := HK1.out; have := HK2.out; omega
         case rel => exact ⟨(wrap64 (x14_1 + 1)), qe, H', ⟨by have := HK1.out; have := HK2.out; omega⟩, ⟨qb BK275.out⟩, ⟨qB⟩⟩
     ·replace c15 := Bool.eq_false_iff.mpr c15
      subst c15
      rw [if_neg (show ¬ (false = true) by decide)] at H
      obtain rfl := Option.some.inj H
      have p278 : 0 ≤ (x14_1 : Int) := qd
      have q278 : x14_1 < (l0_0.length : Int) := qd
      obtain ⟨ad278, e278, hx278_0⟩ := Kd.at_int HR0_0.out x14_1 p278 q278
      cases e278
      replace hx278_0 := (HB.out.cell (World.block_lt_of_cell? w _ hx278_0)).trans hx278_0
      replace p278 := eq_true p278
      replace q278 := eq_true q278
      go_wp2_with (((with_reducible refine gate_callee (f := 72) rfl ?_); refine goesL_ (some 23) rfl rfl Try.func72 (by kernel_rfl) rfl #[.int .i64 (rd l0_0 x14_1), .int .i64 0, .int .i64 (wrap64 ((ji13) - 1))] rfl (by (try simp only [List.map_toArray, List.map_cons, List.map_nil]); first | done | (simp only [hji13]; rfl) | rfl | (simp only [List.length_drop, List.length_take]; rfl)) ?_; (with_reducible refine (impl_within.calls (rd l0_0 x14_1) 0 (wrap64 ((ji13) - 1)) false _ A14.out).mono ?_); rintro e w' ⟨rfl, ⟨nd, rfl⟩⟩; refine ⟨_, rfl, ?_⟩))
      go_ret
      exact ⟨by first | rfl | (simp [errW_none, errW_some] <;> rfl) | (simp only [← hji13]; first | rfl | (simp [errW_none, errW_some] <;> rfl)) | (simp [*, errW_none, errW_some] <;> rfl), qB⟩
    ·rw [if_neg c9] at H
     have c9b0 := decide_eq_false c9
     clear c9
     obtain rfl := Option.some.inj H
     go_wp2
     go_ret
     exact ⟨qr, qB⟩
 ·replace c4 := Bool.eq_false_iff.mpr c4
  subst c4
  rw [if_neg (show ¬ (false = true) by decide)] at H
  obtain rfl := Option.some.inj H
  go_enter Try.func40, Try.ntmps40
  go_wp2_with (first | ((with_reducible refine gate_dst (N := 1) rfl ?_); refine qx (N := 1) (cs := #[.slice A0_0 l0_0.length c0_0]) (t := 26) ?_; intro gb275 hg w27 hbox hb; have n0_ := am (below_step qB hb); have BK275 := am (hbox); have GW275 := am (qg w hg); have GE275 := am (qg w hg); clear HB; have HB := n0_; clear n0_; clear hb hbox hg; have hcz28_0 := qz w27 BK275.out; have hfz28_0 := blk_frozen BK275.out 0) | ((with_reducible refine gate_callee (f := 101) rfl ?_); refine gL (some 8) Try.func101 #[.agg #[.slice A0_0 l0_0.length c0_0]] ?_; (with_reducible refine (impl_Poset_n.calls _ _ l0_0 t276 _ ?side1 ?side2 A2.out).mono ?_); (case side1 => exact qC (Kd.C_below HR0_0.out HB.out)); (case side2 => exact HC0_0.out); rintro e w29 ⟨rfl, hb⟩; refine ⟨_, rfl, ?_⟩; replace BK275 := am (blk_below (g := gb275) (o := .cells #[.slice A0_0 l0_0.length c0_0] 26 (0, 0)) (qb BK275.out) hb); replace HB := am (below_step qB hb); (try clear hb); (try clear hb2); (try clear hk); (try clear hi)) | ((with_reducible refine gate_callee (f := 72) rfl ?_); refine gL (some 9) Try.func72 #[.int .i64 t276, .int .i64 1, .int .i64 10] ?_; (with_reducible refine (impl_within.calls t276 1 10 false _ A3.out).mono ?_); rintro e w' ⟨rfl, ⟨nd, rfl⟩⟩; refine ⟨_, rfl, ?_⟩))
  go_ret
  exact ⟨qr, qB⟩
def impl_isLinear.f (k : Nat) (l0_0 : List Int) (l1 : List Int) : Option (Bool) := (impl_IsPoset.f k l0_0).bind fun t1113 => (if t1113 = true then ((impl_isOrder.f k l0_0 l1).bind fun t1114 => (some t1114)) else (some false))
theorem impl_isLinear.mono : ∀ a0 a1 k, LeO (impl_isLinear.f k a0 a1) (impl_isLinear.f (k + 1) a0 a1) := by
 intro a0 a1 k
 unfold impl_isLinear.f
 repeat' first
  | (with_reducible exact impl_IsPoset.mono _ _)
  | (with_reducible exact impl_isOrder.mono _ _ _)
  | (with_reducible exact LeO.refl _)
  | (with_reducible exact LeO.none _)
  | (with_reducible refine LeO.ite ?_ ?_)
  | (with_reducible refine LeO.bind ?_ (fun _ => ?_))
  | exact impl_IsPoset.mono _ _
  | exact impl_isOrder.mono _ _ _
  | exact LeO.none _
  | refine LeO.ite ?_ ?_
  | refine LeO.bind ?_ (fun _ => ?_)
set_option maxHeartbeats 8000000 in
set_option maxRecDepth 100000 in
theorem impl_isLinear.calls (k : Nat) (A0_0 : Option Addr) (c0_0 : Nat) (l0_0 : List Int) (A1 : Option Addr) (c1 : Nat) (l1 : List Int) (r : Bool) (w : World) (hr0_0 : Kd.C (Kd.int .i64) w A0_0 l0_0.length l0_0) (hc0_0 : l0_0.length ≤ c0_0) (hr1 : Kd.C (Kd.int .i64) w A1 l1.length l1) (hc1 : l1.length ≤ c1) (h : impl_isLinear.f k l0_0 l1 = some r) :
 Calls Try.prog 122 #[.agg #[.slice A0_0 l0_0.length c0_0], .slice A1 l1.length c1] w fun e w' => e = .returned (.bool r) ∧ Below w.heap.size w w' := by
 have hu26 := Try.underlying26
 have HR0_0 := am hr0_0
 have HC0_0 := am hc0_0
 clear hr0_0 hc0_0
 have HR1 := am hr1
 have HC1 := am hc1
 clear hr1 hc1
 have HB := am (Below.refl w.heap.size w)
 have H := h
 unfold impl_isLinear.f at H
 clear h
 replace H := Option.bind_eq_some_iff.mp H
 obtain ⟨t1113, A30, H⟩ := H
 (try dsimp only at H)
 have A3 := am A30
 clear A30
 by_cases c4 : t1113 = true
 ·subst c4
  rw [if_pos rfl] at H
  replace H := Option.bind_eq_some_iff.mp H
  obtain ⟨t1114, A50, H⟩ := H
  (try dsimp only at H)
  have A5 := am A50
  clear A50
  obtain rfl := Option.some.inj H
  go_enter Try.func122, Try.ntmps122
  go_wp2_with (first | ((with_reducible refine gate_dst (N := 2) rfl ?_); refine qx (N := 2) (cs := #[.slice A0_0 l0_0.length c0_0]) (t := 26) ?_; intro gb1112 hg w6 hbox hb; have n0_ := am (below_step qB hb); have BK1112 := am (hbox); have GW1112 := am (qg w hg); have GE1112 := am (qg w hg); clear HB; have HB := n0_; clear n0_; clear hb hbox hg; have hcz7_0 := qz w6 BK1112.out; have hfz7_0 := blk_frozen BK1112.out 0) | ((with_reducible refine gate_callee (f := 40) rfl ?_); refine gL (some 6) Try.func40 #[.agg #[.slice A0_0 l0_0.length c0_0]] ?_; (with_reducible refine (impl_IsPoset.calls k _ _ l0_0 true _ ?side1 ?side2 A3.out).mono ?_); (case side1 => exact qC (Kd.C_below HR0_0.out HB.out)); (case side2 => exact HC0_0.out); rintro e w8 ⟨rfl, hb⟩; refine ⟨_, rfl, ?_⟩; replace BK1112 := am (blk_below (g := gb1112) (o := .cells #[.slice A0_0 l0_0.length c0_0] 26 (0, 0)) (qb BK1112.out) hb); replace HB := am (below_step qB hb); (try clear hb); (try clear hb2); (try clear hk); (try clear hi); have hcz9_0 := qz w8 BK1112.out; have hfz9_0 := blk_frozen BK1112.out 0) | (go_at_call 150; (with_reducible refine (impl_isOrder.calls k _ _ l0_0 _ _ l1 t1114 _ ?side1 ?side2 ?side3 ?side4 A5.out).mono ?_); (case side1 => exact qC (Kd.C_below HR0_0.out HB.out)); (case side2 => exact HC0_0.out); (case side3 => exact qC (Kd.C_below HR1.out HB.out)); (case side4 => exact HC1.out); rintro e w10 ⟨rfl, hb⟩; replace BK1112 := am (blk_below (g := gb1112) (o := .cells #[.slice A0_0 l0_0.length c0_0] 26 (0, 0)) (qb BK1112.out) hb); replace HB := am (below_step qB hb); (try clear hb); (try clear hb2); (try clear hk); (try clear hi)))
  go_ret
  exact ⟨qr, qB⟩
 ·replace c4 := Bool.eq_false_iff.mpr c4
  subst c4
  rw [if_neg (show ¬ (false = true) by decide)] at H
  obtain rfl := Option.some.inj H
  go_enter Try.func122, Try.ntmps122
  go_wp2_with (first | ((with_reducible refine gate_dst (N := 2) rfl ?_); refine qx (N := 2) (cs := #[.slice A0_0 l0_0.length c0_0]) (t := 26) ?_; intro gb1112 hg w11 hbox hb; have n0_ := am (below_step qB hb); have BK1112 := am (hbox); have GW1112 := am (qg w hg); have GE1112 := am (qg w hg); clear HB; have HB := n0_; clear n0_; clear hb hbox hg; have hcz12_0 := qz w11 BK1112.out; have hfz12_0 := blk_frozen BK1112.out 0) | ((with_reducible refine gate_callee (f := 40) rfl ?_); refine gL (some 6) Try.func40 #[.agg #[.slice A0_0 l0_0.length c0_0]] ?_; (with_reducible refine (impl_IsPoset.calls k _ _ l0_0 false _ ?side1 ?side2 A3.out).mono ?_); (case side1 => exact qC (Kd.C_below HR0_0.out HB.out)); (case side2 => exact HC0_0.out); rintro e w13 ⟨rfl, hb⟩; refine ⟨_, rfl, ?_⟩; replace BK1112 := am (blk_below (g := gb1112) (o := .cells #[.slice A0_0 l0_0.length c0_0] 26 (0, 0)) (qb BK1112.out) hb); replace HB := am (below_step qB hb); (try clear hb); (try clear hb2); (try clear hk); (try clear hi)))
  go_ret
  exact ⟨qr, qB⟩
def laws_big.f (l0 : List Int) (l1 : List Int) : Option (Bool) := if (l0.length : Int) > 1048576 then (some true) else (some (decide ((l1.length : Int) > (wrap64 (1048576 - (l0.length : Int))))))
set_option maxHeartbeats 8000000 in
set_option maxRecDepth 100000 in
theorem laws_big.calls (A0 : Option Addr) (c0 : Nat) (l0 : List Int) (A1 : Option Addr) (c1 : Nat) (l1 : List Int) (r : Bool) (w : World) (hr0 : Kd.C (Kd.int .u8) w A0 l0.length l0) (hc0 : l0.length ≤ c0) (hr1 : Kd.C (Kd.int .u8) w A1 l1.length l1) (hc1 : l1.length ≤ c1) (h : laws_big.f l0 l1 = some r) :
 Calls Try.prog 7 #[.slice A0 l0.length c0, .slice A1 l1.length c1] w fun e w' => e = .returned (.bool r) ∧ Drawn0 w w' := by
 have HR0 := am hr0
 have HC0 := am hc0
 clear hr0 hc0
 have HR1 := am hr1
 have HC1 := am hc1
 clear hr1 hc1
 have H := h
 unfold laws_big.f at H
 clear h
 by_cases c3 : (l0.length : Int) > 1048576
 ·rw [if_pos c3] at H
  have c3b0 : decide (1048576 < (l0.length : Int)) = true := decide_eq_true c3
  have c3b1 : decide (1048576 < l0.length) = true := decide_eq_true (by omega)
  clear c3
  obtain rfl := Option.some.inj H
  go_enter Try.func7, Try.ntmps7
  go_wp2
  go_ret
  exact ⟨by first | rfl | (simp; done) | (simp [*]; done), by repeat (first | exact Drawn0.refl _ | apply Drawn0.step)⟩
 ·rw [if_neg c3] at H
  have c3b0 : decide (1048576 < (l0.length : Int)) = false := decide_eq_false c3
  have c3b1 : decide (1048576 < l0.length) = false := decide_eq_false (by omega)
  clear c3
  obtain rfl := Option.some.inj H
  go_enter Try.func7, Try.ntmps7
  go_wp2
  go_ret
  exact ⟨by first | rfl | (simp; done) | (simp [*]; done), by repeat (first | exact Drawn0.refl _ | apply Drawn0.step)⟩
def laws_oSame.l0 : Nat → List Int → List Int → Int → Int → Option (Bool)
 | 0, _, _, _, _ => none
 | k + 1, x0, x1, x12, x13 => if x13 < x12 then (if 0 ≤ x13 then (if x13 < (x0.length : Int) then (if x13 < (x1.length : Int) then (if (rd x0 x13) = (rd x1 x13) then (laws_oSame.l0 k x0 x1 x12 (wrap64 (x13 + 1))) else (some false)) else (none)) else (none)) else (none)) else (some true)
def laws_oSame.f (k : Nat) (l0 : List Int) (l1 : List Int) : Option (Bool) := if (l0.length : Int) = (l1.length : Int) then (laws_oSame.l0 k l0 l1 (l0.length : Int) 0) else (some false)
theorem laws_oSame.mono_l : ∀ k, (∀ y0 y1 y2 y3, LeO (laws_oSame.l0 k y0 y1 y2 y3) (laws_oSame.l0 (k + 1) y0 y1 y2 y3))
 | 0 => fun _ _ _ _ r h => by simp [laws_oSame.l0] at h
 | k + 1 => by
  have ih0 := laws_oSame.mono_l k
  ·intro y0 y1 y2 y3
   unfold laws_oSame.l0
   repeat' first
   | (with_reducible exact LeO.refl _)
   | (with_reducible exact LeO.none _)
   | (with_reducible refine LeO.ite ?_ ?_)
   | (with_reducible refine LeO.bind ?_ (fun _ => ?_))
   | exact ih0 _ _ _ _
   | exact LeO.none _
   | refine LeO.ite ?_ ?_
   | refine LeO.bind ?_ (fun _ => ?_)
theorem laws_oSame.mono : ∀ a0 a1 k, LeO (laws_oSame.f k a0 a1) (laws_oSame.f (k + 1) a0 a1) := by
 intro a0 a1 k
 have ih0 := laws_oSame.mono_l k
 unfold laws_oSame.f
 repeat' first
  | (with_reducible exact LeO.refl _)
  | (with_reducible exact LeO.none _)
  | (with_reducible refine LeO.ite ?_ ?_)
  | (with_reducible refine LeO.bind ?_ (fun _ => ?_))
  | exact ih0 _ _ _ _
  | exact LeO.none _
  | refine LeO.ite ?_ ?_
  | refine LeO.bind ?_ (fun _ => ?_)
set_option maxHeartbeats 8000000 in
set_option maxRecDepth 100000 in
theorem laws_oSame.calls (k : Nat) (A0 : Option Addr) (c0 : Nat) (l0 : List Int) (A1 : Option Addr) (c1 : Nat) (l1 : List Int) (r : Bool) (w : World) (hr0 : Kd.C (Kd.int .i64) w A0 l0.length l0) (hc0 : l0.length ≤ c0) (hr1 : Kd.C (Kd.int .i64) w A1 l1.length l1) (hc1 : l1.length ≤ c1) (h : laws_oSame.f k l0 l1 = some r) :
 Calls Try.prog 11 #[.slice A0 l0.length c0, .slice A1 l1.length c1] w fun e w' => e = .returned (.bool r) ∧ Drawn0 w w' := by
 have HR0 := am hr0
 have HC0 := am hc0
 clear hr0 hc0
 have HR1 := am hr1
 have HC1 := am hc1
 clear hr1 hc1
 have H := h
 unfold laws_oSame.f at H
 clear h
 by_cases c3 : (l0.length : Int) = (l1.length : Int)
 ·rw [if_pos c3] at H
  have c3b0 : ((l0.length : Int) == (l1.length : Int)) = true := beq_iff_eq.mpr c3
  have c3b1 : ((l0.length : Int) != (l1.length : Int)) = false := bne_eq_false_iff_eq.mpr c3
  have c3b2 : (l0.length == l1.length) = true := by first | simpa using c3 | (simp at c3 ⊢; omega)
  clear c3
  have H' := am H
  clear H
  go_enter Try.func11, Try.ntmps11
  go_wp2
  skip
  go_loopg [13] k (fun kq v13 w' => ∃ (x13_1 : Int), v13 = .int .i64 x13_1 ∧ Aside0 (laws_oSame.l0 kq l0 l1 (l0.length : Int) x13_1 = some r) ∧ Aside0 (kq ≤ k) ∧ Drawn0 w w')
  case atStart => exact ⟨(0), qe, H', ⟨Nat.le_refl _⟩, by repeat (first | exact Drawn0.refl _ | apply Drawn0.step)⟩
  case round =>
   clear H'
   try clear c1
   try clear p2
   try clear c3
   try clear c3b0
   try clear c3b1
   try clear c3b2
   obtain ⟨x13_1, rfl, HA, HK1, ⟨m1, rfl⟩⟩ := hrel
   cases gk with
   | zero => exact absurd HA.out (by simp [laws_oSame.l0])
   | succ k1 =>
    have H := HA.out
    clear HA
    simp only [laws_oSame.l0] at H
    by_cases c4 : x13_1 < (l0.length : Int)
    ·rw [if_pos c4] at H
     have c4b0 := decide_eq_true c4
     clear c4
     by_cases c5 : 0 ≤ x13_1
     rotate_left
     ·rw [if_neg c5] at H
      exact absurd H (by simp)
     rw [if_pos c5] at H
     have c5b0 := decide_eq_true c5
     clear c5
     by_cases c6 : x13_1 < (l0.length : Int)
     rotate_left
     ·rw [if_neg c6] at H
      exact absurd H (by simp)
     rw [if_pos c6] at H
     have c6b0 := decide_eq_true c6
     clear c6
     by_cases c7 : x13_1 < (l1.length : Int)
     rotate_left
     ·rw [if_neg c7] at H
      exact absurd H (by simp)
     rw [if_pos c7] at H
     have c7b0 := decide_eq_true c7
     clear c7
     by_cases c8 : (rd l0 x13_1) = (rd l1 x13_1)
     ·rw [if_pos c8] at H
      have c8b0 : ((rd l0 x13_1) == (rd l1 x13_1)) = true := beq_iff_eq.mpr c8
      have c8b1 : ((rd l0 x13_1) != (rd l1 x13_1)) = false := bne_eq_false_iff_eq.mpr c8
      clear c8
      have H' := am H
      clear H
      have p373 : 0 ≤ (x13_1 : Int) := qd
      have q373 : x13_1 < (l0.length : Int) := qd
      obtain ⟨ad373, e373, hx373_0⟩ := Kd.at_int HR0.out x13_1 p373 q373
      cases e373
      replace p373 := eq_true p373
      replace q373 := eq_true q373
      have p374 : 0 ≤ (x13_1 : Int) := qd
      have q374 : x13_1 < (l1.length : Int) := qd
      obtain ⟨ad374, e374, hx374_0⟩ := Kd.at_int HR1.out x13_1 p374 q374
      cases e374
      replace p374 := eq_true p374
      replace q374 := eq_true q374
      go_wp2
      repeat (go_quiet (fail); try go_wp2)
      go_roundg k1
      case measure => have := HK1.out; omega
      case rel => exact ⟨(wrap64 (x13_1 + 1)), qe, H', ⟨by have := HK1.out; omega⟩, by repeat (first | exact Drawn0.refl _ | apply Drawn0.step)⟩
     ·rw [if_neg c8] at H
      have c8b0 : ((rd l0 x13_1) == (rd l1 x13_1)) = false := beq_eq_false_iff_ne.mpr c8
      have c8b1 : ((rd l0 x13_1) != (rd l1 x13_1)) = true := bne_iff_ne.mpr c8
      obtain rfl := Option.some.inj H
      have p373 : 0 ≤ (x13_1 : Int) := qd
      have q373 : x13_1 < (l0.length : Int) := qd
      obtain ⟨ad373, e373, hx373_0⟩ := Kd.at_int HR0.out x13_1 p373 q373
      cases e373
      replace p373 := eq_true p373
      replace q373 := eq_true q373
      have p374 : 0 ≤ (x13_1 : Int) := qd
      have q374 : x13_1 < (l1.length : Int) := qd
      obtain ⟨ad374, e374, hx374_0⟩ := Kd.at_int HR1.out x13_1 p374 q374
      cases e374
      replace p374 := eq_true p374
      replace q374 := eq_true q374
      go_wp2
      repeat (go_quiet (fail); try go_wp2)
      go_ret
      exact ⟨by first | rfl | (simp; done) | (simp [*]; done), by repeat (first | exact Drawn0.refl _ | apply Drawn0.step)⟩
    ·rw [if_neg c4] at H
     have c4b0 := decide_eq_false c4
     clear c4
     obtain rfl := Option.some.inj H
     go_wp2
     skip
     go_ret
     exact ⟨by first | rfl | (simp; done) | (simp [*]; done), by repeat (first | exact Drawn0.refl _ | apply Drawn0.step)⟩
 ·rw [if_neg c3] at H
  have c3b0 : ((l0.length : Int) == (l1.length : Int)) = false := beq_eq_false_iff_ne.mpr c3
  have c3b1 : ((l0.length : Int) != (l1.length : Int)) = true := bne_iff_ne.mpr c3
  have c3b2 : (l0.length == l1.length) = false := by first | simpa using c3 | (simp at c3 ⊢; omega)
  obtain rfl := Option.some.inj H
  go_enter Try.func11, Try.ntmps11
  go_wp2
  skip
  go_ret
  exact ⟨by first | rfl | (simp; done) | (simp [*]; done), by repeat (first | exact Drawn0.refl _ | apply Drawn0.step)⟩
def laws_oSum.l0 : Nat → Int → List Int → Int → Int → Option (Int)
 | 0, _, _, _, _ => none
 | k + 1, x3, x6, x7, x8 => if x8 < x7 then (if 0 ≤ x8 then (if x8 < (x6.length : Int) then (laws_oSum.l0 k (wrap64 (x3 + (rd x6 x8))) x6 x7 (wrap64 (x8 + 1))) else (none)) else (none)) else (some x3)
def laws_oSum.f (k : Nat) (l0 : List Int) : Option (Int) := laws_oSum.l0 k 0 l0 (l0.length : Int) 0
theorem laws_oSum.mono_l : ∀ k, (∀ y0 y1 y2 y3, LeO (laws_oSum.l0 k y0 y1 y2 y3) (laws_oSum.l0 (k + 1) y0 y1 y2 y3))
 | 0 => fun _ _ _ _ r h => by simp [laws_oSum.l0] at h
 | k + 1 => by
  have ih0 := laws_oSum.mono_l k
  ·intro y0 y1 y2 y3
   unfold laws_oSum.l0
   repeat' first
   | (with_reducible exact LeO.refl _)
   | (with_reducible exact LeO.none _)
   | (with_reducible refine LeO.ite ?_ ?_)
   | (with_reducible refine LeO.bind ?_ (fun _ => ?_))
   | exact ih0 _ _ _ _
   | exact LeO.none _
   | refine LeO.ite ?_ ?_
   | refine LeO.bind ?_ (fun _ => ?_)
theorem laws_oSum.mono : ∀ a0 k, LeO (laws_oSum.f k a0) (laws_oSum.f (k + 1) a0) := by
 intro a0 k
 have ih0 := laws_oSum.mono_l k
 unfold laws_oSum.f
 repeat' first
  | (with_reducible exact LeO.refl _)
  | (with_reducible exact LeO.none _)
  | (with_reducible refine LeO.ite ?_ ?_)
  | (with_reducible refine LeO.bind ?_ (fun _ => ?_))
  | exact ih0 _ _ _ _
  | exact LeO.none _
  | refine LeO.ite ?_ ?_
  | refine LeO.bind ?_ (fun _ => ?_)
set_option maxHeartbeats 8000000 in
set_option maxRecDepth 100000 in
theorem laws_oSum.calls (k : Nat) (A0 : Option Addr) (c0 : Nat) (l0 : List Int) (r : Int) (w : World) (hr0 : Kd.C (Kd.int .i64) w A0 l0.length l0) (hc0 : l0.length ≤ c0) (h : laws_oSum.f k l0 = some r) :
 Calls Try.prog 50 #[.slice A0 l0.length c0] w fun e w' => e = .returned (.int .i64 r) ∧ Drawn0 w w' := by
 have HR0 := am hr0
 have HC0 := am hc0
 clear hr0 hc0
 have H := h
 unfold laws_oSum.f at H
 clear h
 have H' := am H
 clear H
 go_enter Try.func50, Try.ntmps50
 go_wp2
 go_loopg [3, 8] k (fun kq v3 v8 w' => ∃ (x3_1 : Int) (x8_1 : Int), v3 = .int .i64 x3_1 ∧ v8 = .int .i64 x8_1 ∧ Aside0 (laws_oSum.l0 kq x3_1 l0 (l0.length : Int) x8_1 = some r) ∧ Aside0 (kq ≤ k) ∧ Drawn0 w w')
 case atStart => exact ⟨(0), (0), qe, qe, H', ⟨Nat.le_refl _⟩, by repeat (first | exact Drawn0.refl _ | apply Drawn0.step)⟩
 case round =>
  clear H'
  obtain ⟨x3_1, x8_1, rfl, rfl, HA, HK1, ⟨m1, rfl⟩⟩ := hrel
  cases gk with
  | zero => exact absurd HA.out (by simp [laws_oSum.l0])
  | succ k1 =>
   have H := HA.out
   clear HA
   simp only [laws_oSum.l0] at H
   by_cases c2 : x8_1 < (l0.length : Int)
   ·rw [if_pos c2] at H
    have c2b0 := decide_eq_true c2
    clear c2
    by_cases c3 : 0 ≤ x8_1
    rotate_left
    ·rw [if_neg c3] at H
     exact absurd H (by simp)
    rw [if_pos c3] at H
    have c3b0 := decide_eq_true c3
    clear c3
    by_cases c4 : x8_1 < (l0.length : Int)
    rotate_left
    ·rw [if_neg c4] at H
     exact absurd H (by simp)
    rw [if_pos c4] at H
    have c4b0 := decide_eq_true c4
    clear c4
    have H' := am H
    clear H
    have p907 : 0 ≤ (x8_1 : Int) := qd
    have q907 : x8_1 < (l0.length : Int) := qd
    obtain ⟨ad907, e907, hx907_0⟩ := Kd.at_int HR0.out x8_1 p907 q907
    cases e907
    replace p907 := eq_true p907
    replace q907 := eq_true q907
    go_wp2
    go_roundg k1
    case measure => have := HK1.out; omega
    case rel => exact ⟨(wrap64 (x3_1 + (rd l0 x8_1))), (wrap64 (x8_1 + 1)), qe, qe, H', ⟨by have := HK1.out; omega⟩, by repeat (first | exact Drawn0.refl _ | apply Drawn0.step)⟩
   ·rw [if_neg c2] at H
    have c2b0 := decide_eq_false c2
    clear c2
    obtain rfl := Option.some.inj H
    go_wp2
    go_ret
    exact ⟨by first | rfl | (simp; done) | (simp [*]; done), by repeat (first | exact Drawn0.refl _ | apply Drawn0.step)⟩
/-- A state of type 67 at block g of W; what its slices lead to came in by w0. -/
def IsS67 (w0 W : World) (g : Nat) (f0 : List Int) (f1 : Int) (f2 : Int) : Prop := ∃ A0 c0, W.heap[g]? = some (.cells #[.slice A0 f0.length c0, .int .i64 f1, .int .u64 f2] 67 (0, 0)) ∧ w0.heap.size ≤ g ∧ Kd.C (Kd.int .u8) w0 A0 f0.length f0
theorem IsS67.grown {w0 W : World} {g : Nat} {f0 : List Int} {f1 : Int} {f2 : Int} {W1 : World} {row : Option Nat} (h : IsS67 w0 W g f0 f1 f2) (hw : W.grownBy W1 row) (hne : some g ≠ row) : IsS67 w0 W1 g f0 f1 f2 := by
 obtain ⟨A0, c0, hb, hg, hr0⟩ := h
 exact ⟨A0, c0, blk_grown hb hw hne, hg, hr0⟩
theorem IsS67.own_neN {w0 W : World} {g : Nat} {f0 : List Int} {f1 : Int} {f2 : Int} {α : Type} {d : Kd α} {e : Nat} {base : Nat} {ok : Nat → Prop} {v : Value} {xs : List α} (h : IsS67 w0 W g f0 f1 f2) (ho : Kd.N d e W base ok v xs) (ht : e ≠ 67) : some g ≠ v.ownBlock := by
 obtain ⟨A0, c0, hb, hg, hr0⟩ := h
 exact Kd.N_ne ho hb ht
theorem IsS67.fresh {w0 W : World} {g : Nat} {f0 : List Int} {f1 : Int} {f2 : Int} (h : IsS67 w0 W g f0 f1 f2) : ∀ k, W.heap.size ≤ k → k ≠ g := by
 obtain ⟨A0, c0, hb, hg, hr0⟩ := h
 exact Kd.freshB hb
theorem IsS67.kept {w0 W : World} {g : Nat} {f0 : List Int} {f1 : Int} {f2 : Int} {W1 : World} {S : Nat → Prop} (h : IsS67 w0 W g f0 f1 f2) (hk : Kept W W1 S) (hne : ¬ S g) : IsS67 w0 W1 g f0 f1 f2 := by
 obtain ⟨A0, c0, hb, hg, hr0⟩ := h
 exact ⟨A0, c0, blk_kept hb hk hne, hg, hr0⟩
theorem IsS67.below {w0 W : World} {g : Nat} {f0 : List Int} {f1 : Int} {f2 : Int} {W1 : World} (h : IsS67 w0 W g f0 f1 f2) (hw : Below W.heap.size W W1) : IsS67 w0 W1 g f0 f1 f2 := h.grown (grown_of_below hw none) (by simp)
theorem IsS67.alloc {w0 W : World} {g : Nat} {f0 : List Int} {f1 : Int} {f2 : Int} (h : IsS67 w0 W g f0 f1 f2) (o : Obj) : IsS67 w0 (W.alloc o) g f0 f1 f2 := h.below (below_alloc (Below.refl _ _) o)
theorem IsS67.drewN {w0 W : World} {g : Nat} {f0 : List Int} {f1 : Int} {f2 : Int} (h : IsS67 w0 W g f0 f1 f2) (m : Nat) : IsS67 w0 (W.drewN m) g f0 f1 f2 := h
theorem IsS67.drew {w0 W : World} {g : Nat} {f0 : List Int} {f1 : Int} {f2 : Int} (h : IsS67 w0 W g f0 f1 f2) : IsS67 w0 W.drew g f0 f1 f2 := h
theorem IsS67.at_ {w0 W : World} {g : Nat} {f0 : List Int} {f1 : Int} {f2 : Int} {w' : World} {m : Nat} (hq : W.drewN m = w') (h : IsS67 w0 W g f0 f1 f2) : IsS67 w0 w' g f0 f1 f2 := by subst hq; exact IsS67.drewN h m
theorem IsS67.apart {w0 W : World} {g : Nat} {f0 : List Int} {f1 : Int} {f2 : Int} {α : Type} {d : Kd α} {e : Nat} {base : Nat} {ok : Nat → Prop} {v : Value} {xs : List α} (h : IsS67 w0 W g f0 f1 f2) (ho : d.R e W base ok v xs) (ht : ∀ q, q ∈ e :: d.E → q ≠ 67) : d.R e W base (fun k => ok k ∧ k ≠ g) v xs := by
 obtain ⟨A0, c0, hb, hg, hr0⟩ := h
 exact Kd.R_types ho hb ht
theorem IsS67.own_ne {w0 W : World} {g : Nat} {f0 : List Int} {f1 : Int} {f2 : Int} {α : Type} {d : Kd α} {e : Nat} {base : Nat} {ok : Nat → Prop} {v : Value} {xs : List α} (h : IsS67 w0 W g f0 f1 f2) (ho : d.R e W base ok v xs) (ht : e ≠ 67) : some g ≠ v.ownBlock := by
 obtain ⟨A0, c0, hb, hg, hr0⟩ := h
 exact Kd.R_ne ho hb ht
theorem IsS67.apartQ {w0 W : World} {g : Nat} {f0 : List Int} {f1 : Int} {f2 : Int} {α : Type} {d : Kd α} {e : Nat} {base : Nat} {ok : Nat → Prop} {v : Value} {xs : List α} (h : IsS67 w0 W g f0 f1 f2) (ho : d.Q e W base ok v xs) (ht : ∀ q, q ∈ e :: d.E → q ≠ 67) : d.Q e W base (fun k => ok k ∧ k ≠ g) v xs := by
 obtain ⟨A0, c0, hb, hg, hr0⟩ := h
 exact Kd.Q_types ho hb ht
theorem IsS67.own_neQ {w0 W : World} {g : Nat} {f0 : List Int} {f1 : Int} {f2 : Int} {α : Type} {d : Kd α} {e : Nat} {base : Nat} {ok : Nat → Prop} {v : Value} {xs : List α} (h : IsS67 w0 W g f0 f1 f2) (ho : d.Q e W base ok v xs) (ht : e ≠ 67) : some g ≠ v.ownBlock := by
 obtain ⟨A0, c0, hb, hg, hr0⟩ := h
 exact Kd.Q_ne ho hb ht
theorem IsS67.apartS {w0 W : World} {g : Nat} {f0 : List Int} {f1 : Int} {f2 : Int} {α : Type} {d : Kd α} {e : Nat} {base : Nat} {ok : Nat → Prop} {v : Value} {xs : List α} (h : IsS67 w0 W g f0 f1 f2) (ho : d.S e W base ok v xs) (ht : ∀ q, q ∈ e :: d.E → q ≠ 67) : d.S e W base (fun k => ok k ∧ k ≠ g) v xs := by
 obtain ⟨A0, c0, hb, hg, hr0⟩ := h
 exact Kd.S_types ho hb ht
theorem IsS67.own_neS {w0 W : World} {g : Nat} {f0 : List Int} {f1 : Int} {f2 : Int} {α : Type} {d : Kd α} {e : Nat} {base : Nat} {ok : Nat → Prop} {v : Value} {xs : List α} (h : IsS67 w0 W g f0 f1 f2) (ho : d.S e W base ok v xs) (ht : e ≠ 67) : some g ≠ v.ownBlock := by
 obtain ⟨A0, c0, hb, hg, hr0⟩ := h
 exact Kd.S_ne ho hb ht
theorem IsS67.lt {w0 W : World} {g : Nat} {f0 : List Int} {f1 : Int} {f2 : Int} (h : IsS67 w0 W g f0 f1 f2) : g < W.heap.size := by
 obtain ⟨A0, c0, hb, hg, hr0⟩ := h
 exact blk_lt hb
theorem IsS67.ge {w0 W : World} {g : Nat} {f0 : List Int} {f1 : Int} {f2 : Int} (h : IsS67 w0 W g f0 f1 f2) : w0.heap.size ≤ g := by
 obtain ⟨A0, c0, hb, hg, hr0⟩ := h
 exact hg
theorem IsS67.ne_blk {w0 W : World} {g : Nat} {f0 : List Int} {f1 : Int} {f2 : Int} {a : Nat} {cs : Array Value} {t : TypeId} {fr : Nat × Nat} (h : IsS67 w0 W g f0 f1 f2) (hb2 : W.heap[a]? = some (.cells cs t fr)) (ht : t ≠ 67) : g ≠ a := by
 obtain ⟨A0, c0, hb, hg, hr0⟩ := h
 rintro rfl
 rw [hb] at hb2
 injection hb2 with hb2
 injection hb2 with _ ht2
 exact ht ht2.symm
theorem IsS67.far {w0 W : World} {g : Nat} {f0 : List Int} {f1 : Int} {f2 : Int} {p : Addr} (h : IsS67 w0 W g f0 f1 f2) (hne : g ≠ p.block) (u : Value) : IsS67 w0 (W.setCell p u) g f0 f1 f2 := by
 obtain ⟨A0, c0, hb, hg, hr0⟩ := h
 exact ⟨A0, c0, blk_far hb hne u, hg, hr0⟩
theorem cellS67_0 {W : World} {g : Nat} {A0 : Option Addr} {c0 : Nat} {f0 : List Int} {f1 : Int} {f2 : Int} (h : W.heap[g]? = some (.cells #[.slice A0 f0.length c0, .int .i64 f1, .int .u64 f2] 67 (0, 0))) : W.cell? ⟨g, 0, none⟩ = some (.slice A0 f0.length c0) := (blk_cell h 0).trans rfl
theorem cellS67_1 {W : World} {g : Nat} {A0 : Option Addr} {c0 : Nat} {f0 : List Int} {f1 : Int} {f2 : Int} (h : W.heap[g]? = some (.cells #[.slice A0 f0.length c0, .int .i64 f1, .int .u64 f2] 67 (0, 0))) : W.cell? ⟨g, 1, none⟩ = some (.int .i64 f1) := (blk_cell h 1).trans rfl
theorem IsS67.set_1 {w0 W : World} {g : Nat} {f0 : List Int} {f1 : Int} {f2 : Int} (h : IsS67 w0 W g f0 f1 f2) (x : Int) : IsS67 w0 (W.setCell ⟨g, 1, none⟩ (.int .i64 x)) g f0 x f2 := by
 obtain ⟨A0, c0, hb, hg, hr0⟩ := h
 exact ⟨A0, c0, by simpa using blk_set hb 1 (.int .i64 x), hg, hr0⟩
theorem cellS67_2 {W : World} {g : Nat} {A0 : Option Addr} {c0 : Nat} {f0 : List Int} {f1 : Int} {f2 : Int} (h : W.heap[g]? = some (.cells #[.slice A0 f0.length c0, .int .i64 f1, .int .u64 f2] 67 (0, 0))) : W.cell? ⟨g, 2, none⟩ = some (.int .u64 f2) := (blk_cell h 2).trans rfl
theorem IsS67.set_2 {w0 W : World} {g : Nat} {f0 : List Int} {f1 : Int} {f2 : Int} (h : IsS67 w0 W g f0 f1 f2) (x : Int) : IsS67 w0 (W.setCell ⟨g, 2, none⟩ (.int .u64 x)) g f0 f1 x := by
 obtain ⟨A0, c0, hb, hg, hr0⟩ := h
 exact ⟨A0, c0, by simpa using blk_set hb 2 (.int .u64 x), hg, hr0⟩
theorem qKl {w w1 w' : World} {g : Nat} {r : Option Nat} (_ : KeepBut w w1 g r) (h : KeepBut w w' g r) : KeepBut w w' g r := h
theorem qK {w w' : World} {g : Nat} {r : Option Nat} (h : KeepBut w w' g r := by first | (with_reducible exact HK.out) | (refine qKl HK.out ?_; repeat (first | (with_reducible first | exact HK.out | apply KeepBut.set_ | apply keep_drewN | apply keep_drew | apply keep_alloc) | (refine keep_far ?_ (by apply Aside0.out; assumption) _) | exact HK.out))) : KeepBut w w' g r := h
theorem qI67 {w0 w : World} {g : Nat} {f0 : List Int} {f1 f2 : Int} (h : IsS67 w0 w g f0 f1 f2 := by repeat (first | (with_reducible first | exact HI0.out | apply IsS67.alloc | apply IsS67.drewN | apply IsS67.drew | apply IsS67.set_1 | apply IsS67.set_2) | (refine IsS67.far ?_ (by apply Aside0.out; assumption) _) | exact HI0.out)) : IsS67 w0 w g f0 f1 f2 := h
theorem IsS67.new (w0 W : World) (A0 : Option Addr) (c0 : Nat) (f0 : List Int) (f1 : Int) (f2 : Int) (hB : Below w0.heap.size w0 W) (hr0 : Kd.C (Kd.int .u8) w0 A0 f0.length f0) : IsS67 w0 (W.alloc (.cells #[.slice A0 f0.length c0, .int .i64 f1, .int .u64 f2] 67)) W.heap.size f0 f1 f2 := ⟨A0, c0, by simpa using heap_alloc_new W _, hB.size, hr0⟩

def spec_l1Cur_next.f (s0_0 : List Int) (s0_1 : Int) (s0_2 : Int) : Option (Int × Int × Int) := if s0_1 < (s0_0.length : Int) then (if 0 ≤ s0_1 then (if (wrap64 (s0_1 + 1)) ≤ (s0_0.length : Int) then (some (wrap64 (rd s0_0 s0_1), wrap64 (s0_1 + 1), IntKind.u64.wrap ((IntKind.u64.wrap ((IntKind.u64.wrap (s0_2 * 6364136223846793005)) + (IntKind.u64.wrap (wrap64 (rd s0_0 s0_1))))) + 1442695040888963407))) else (some (wrap64 (Go.bits .and .u64 ((IntKind.u64.wrap ((IntKind.u64.wrap ((IntKind.u64.wrap (s0_2 * 6364136223846793005)) + (IntKind.u64.wrap (wrap64 (rd s0_0 s0_1))))) + 1442695040888963407)) / 1099511627776) 255), wrap64 (s0_1 + 1), IntKind.u64.wrap ((IntKind.u64.wrap ((IntKind.u64.wrap (s0_2 * 6364136223846793005)) + (IntKind.u64.wrap (wrap64 (rd s0_0 s0_1))))) + 1442695040888963407)))) else (none)) else (if (wrap64 (s0_1 + 1)) ≤ (s0_0.length : Int) then (some (0, wrap64 (s0_1 + 1), IntKind.u64.wrap ((IntKind.u64.wrap ((IntKind.u64.wrap (s0_2 * 6364136223846793005)))) + 1442695040888963407))) else (some (wrap64 (Go.bits .and .u64 ((IntKind.u64.wrap ((IntKind.u64.wrap ((IntKind.u64.wrap (s0_2 * 6364136223846793005)))) + 1442695040888963407)) / 1099511627776) 255), wrap64 (s0_1 + 1), IntKind.u64.wrap ((IntKind.u64.wrap ((IntKind.u64.wrap (s0_2 * 6364136223846793005)))) + 1442695040888963407))))
set_option maxHeartbeats 8000000 in
set_option maxRecDepth 100000 in
theorem spec_l1Cur_next.calls (g : Nat) (s0_0 : List Int) (s0_1 : Int) (s0_2 : Int) (r1 : Int) (r2 : Int) (r3 : Int) (w0 w : World) (hI : IsS67 w0 w g s0_0 s0_1 s0_2) (hB : Below w0.heap.size w0 w) (h : spec_l1Cur_next.f s0_0 s0_1 s0_2 = some (r1, r2, r3)) :
 Calls Try.prog 126 #[.pointer (some ⟨g, 0, none⟩)] w fun e w' => e = .returned (.int .i64 r1) ∧ IsS67 w0 w' g s0_0 r2 r3 ∧ Below w0.heap.size w0 w' ∧ KeepBut w w' g none := by
 have HI0 := am hI
 have HK := am (KeepBut.refl w g none)
 have HL := am hB.size
 clear hI
 have HW0 := am hB.size
 have HB := am hB
 clear hB
 have H := h
 unfold spec_l1Cur_next.f at H
 clear h
 by_cases c2 : s0_1 < (s0_0.length : Int)
 ·rw [if_pos c2] at H
  have c2b0 := decide_eq_true c2
  clear c2
  by_cases c3 : 0 ≤ s0_1
  rotate_left
  ·rw [if_neg c3] at H
   exact absurd H (by simp)
  rw [if_pos c3] at H
  have c3b0 := decide_eq_true c3
  clear c3
  by_cases c4 : (wrap64 (s0_1 + 1)) ≤ (s0_0.length : Int)
  ·rw [if_pos c4] at H
   have c4b0 := decide_eq_true c4
   clear c4
   simp only [Option.some.injEq, Prod.mk.injEq] at H
   obtain ⟨rfl, rfl, rfl⟩ := H
   obtain ⟨ASz5_0, cSz5_0, HGz5, hgz5, HSz5_0⟩ := HI0.out
   have hcz5_0 := cellS67_0 HGz5
   have hcz5_1 := cellS67_1 HGz5
   have hcz5_2 := cellS67_2 HGz5
   have hfz5_1 := blk_frozen HGz5 1
   have hfz5_2 := blk_frozen HGz5 2
   clear HGz5 hgz5
   have p115 : 0 ≤ (s0_1 : Int) := qd
   have q115 : s0_1 < (s0_0.length : Int) := qd
   obtain ⟨ad115, e115, hx115_0⟩ := Kd.at_int HSz5_0 s0_1 p115 q115
   cases e115
   replace hx115_0 := pw_cell_below HB.out hx115_0
   replace p115 := eq_true p115
   replace q115 := eq_true q115
   go_enter Try.func126, Try.ntmps126
   go_wp2
   repeat (go_quiet (fail); try go_wp2)
   go_ret
   exact ⟨qr, qI67, qB, qK⟩
  ·rw [if_neg c4] at H
   have c4b0 := decide_eq_false c4
   clear c4
   simp only [Option.some.injEq, Prod.mk.injEq] at H
   obtain ⟨rfl, rfl, rfl⟩ := H
   obtain ⟨ASz6_0, cSz6_0, HGz6, hgz6, HSz6_0⟩ := HI0.out
   have hcz6_0 := cellS67_0 HGz6
   have hcz6_1 := cellS67_1 HGz6
   have hcz6_2 := cellS67_2 HGz6
   have hfz6_1 := blk_frozen HGz6 1
   have hfz6_2 := blk_frozen HGz6 2
   clear HGz6 hgz6
   have p115 : 0 ≤ (s0_1 : Int) := qd
   have q115 : s0_1 < (s0_0.length : Int) := qd
   obtain ⟨ad115, e115, hx115_0⟩ := Kd.at_int HSz6_0 s0_1 p115 q115
   cases e115
   replace hx115_0 := pw_cell_below HB.out hx115_0
   replace p115 := eq_true p115
   replace q115 := eq_true q115
   go_enter Try.func126, Try.ntmps126
   go_wp2
   repeat (go_quiet (fail); try go_wp2)
   go_ret
   exact ⟨qr, qI67, qB, qK⟩
 ·rw [if_neg c2] at H
  have c2b0 := decide_eq_false c2
  clear c2
  by_cases c7 : (wrap64 (s0_1 + 1)) ≤ (s0_0.length : Int)
  ·rw [if_pos c7] at H
   have c7b0 := decide_eq_true c7
   clear c7
   simp only [Option.some.injEq, Prod.mk.injEq] at H
   obtain ⟨rfl, rfl, rfl⟩ := H
   obtain ⟨ASz8_0, cSz8_0, HGz8, hgz8, HSz8_0⟩ := HI0.out
   have hcz8_0 := cellS67_0 HGz8
   have hcz8_1 := cellS67_1 HGz8
   have hcz8_2 := cellS67_2 HGz8
   have hfz8_1 := blk_frozen HGz8 1
   have hfz8_2 := blk_frozen HGz8 2
   clear HGz8 hgz8
   go_enter Try.func126, Try.ntmps126
   go_wp2
   repeat (go_quiet (fail); try go_wp2)
   go_ret
   exact ⟨qr, qI67, qB, qK⟩
  ·rw [if_neg c7] at H
   have c7b0 := decide_eq_false c7
   clear c7
   simp only [Option.some.injEq, Prod.mk.injEq] at H
   obtain ⟨rfl, rfl, rfl⟩ := H
   obtain ⟨ASz9_0, cSz9_0, HGz9, hgz9, HSz9_0⟩ := HI0.out
   have hcz9_0 := cellS67_0 HGz9
   have hcz9_1 := cellS67_1 HGz9
   have hcz9_2 := cellS67_2 HGz9
   have hfz9_1 := blk_frozen HGz9 1
   have hfz9_2 := blk_frozen HGz9 2
   clear HGz9 hgz9
   go_enter Try.func126, Try.ntmps126
   go_wp2
   repeat (go_quiet (fail); try go_wp2)
   go_ret
   exact ⟨qr, qI67, qB, qK⟩
def spec_l1Cur_pick.f (s0_0 : List Int) (s0_1 : Int) (s0_2 : Int) (a1 : Int) : Option (Int × Int × Int) := if a1 ≤ 1 then (some (0, s0_1, s0_2)) else ((spec_l1Cur_next.f s0_0 s0_1 s0_2).bind fun bt116 => (if a1 > 200 then ((spec_l1Cur_next.f s0_0 bt116.2.1 bt116.2.2).bind fun bt119 => (if a1 = 0 then (none) else (some (Int.tmod (wrap64 ((wrap64 (bt116.1 * 256)) + bt119.1)) a1, bt119.2.1, bt119.2.2)))) else (if a1 = 0 then (none) else (some (Int.tmod bt116.1 a1, bt116.2.1, bt116.2.2)))))
set_option maxHeartbeats 8000000 in
set_option maxRecDepth 100000 in
theorem spec_l1Cur_pick.calls (g : Nat) (s0_0 : List Int) (s0_1 : Int) (s0_2 : Int) (a1 : Int) (r1 : Int) (r2 : Int) (r3 : Int) (w0 w : World) (hI : IsS67 w0 w g s0_0 s0_1 s0_2) (hB : Below w0.heap.size w0 w) (h : spec_l1Cur_pick.f s0_0 s0_1 s0_2 a1 = some (r1, r2, r3)) :
 Calls Try.prog 68 #[.pointer (some ⟨g, 0, none⟩), .int .i64 a1] w fun e w' => e = .returned (.int .i64 r1) ∧ IsS67 w0 w' g s0_0 r2 r3 ∧ Below w0.heap.size w0 w' ∧ KeepBut w w' g none := by
 have HI0 := am hI
 have HK := am (KeepBut.refl w g none)
 have HL := am hB.size
 clear hI
 have HW0 := am hB.size
 have HB := am hB
 clear hB
 have H := h
 unfold spec_l1Cur_pick.f at H
 clear h
 by_cases c3 : a1 ≤ 1
 ·rw [if_pos c3] at H
  have c3b0 := decide_eq_true c3
  clear c3
  simp only [Option.some.injEq, Prod.mk.injEq] at H
  obtain ⟨rfl, rfl, rfl⟩ := H
  go_enter Try.func68, Try.ntmps68
  go_wp2
  go_ret
  exact ⟨qr, qI67, qB, qK⟩
 ·rw [if_neg c3] at H
  have c3b0 := decide_eq_false c3
  clear c3
  replace H := Option.bind_eq_some_iff.mp H
  obtain ⟨⟨t116, t117, t118⟩, A40, H⟩ := H
  (try dsimp only at H)
  have A4 := am A40
  clear A40
  by_cases c5 : a1 > 200
  ·rw [if_pos c5] at H
   have c5b0 : decide (200 < a1) = true := decide_eq_true c5
   clear c5
   replace H := Option.bind_eq_some_iff.mp H
   obtain ⟨⟨t119, t120, t121⟩, A60, H⟩ := H
   (try dsimp only at H)
   have A6 := am A60
   clear A60
   by_cases c7 : a1 = 0
   ·rw [if_pos c7] at H
    exact absurd H (by simp)
   ·rw [if_neg c7] at H
    have c7b0 : (a1 == 0) = false := beq_eq_false_iff_ne.mpr c7
    have c7b1 : (a1 != 0) = true := bne_iff_ne.mpr c7
    simp only [Option.some.injEq, Prod.mk.injEq] at H
    obtain ⟨rfl, rfl, rfl⟩ := H
    go_enter Try.func68, Try.ntmps68
    go_wp2_with (first | ((with_reducible refine gate_callee (f := 126) rfl ?_); refine gL (some 9) Try.func126 #[.pointer (some ⟨g, 0, none⟩)] ?_; (with_reducible refine (spec_l1Cur_next.calls g s0_0 s0_1 s0_2 t116 t117 t118 w0 _ ?side1 ?side2 A4.out).mono ?_); (case side1 => exact qI67); (case side2 => exact qB); rintro e w8 ⟨rfl, hi, hb, hk⟩; refine ⟨_, rfl, ?_⟩; have n0_ := am (KeepBut.trans qK hk (.inl rfl)); have n1_ := am (hb); replace HI0 := am (hi); clear HK HB; have HK := n0_; have HB := n1_; clear n0_ n1_; (try clear hb); (try clear hb2); (try clear hk); (try clear hi)) | ((with_reducible refine gate_callee (f := 126) rfl ?_); refine gL (some 15) Try.func126 #[.pointer (some ⟨g, 0, none⟩)] ?_; (with_reducible refine (spec_l1Cur_next.calls g s0_0 t117 t118 t119 t120 t121 w0 _ ?side1 ?side2 A6.out).mono ?_); (case side1 => exact qI67); (case side2 => exact qB); rintro e w9 ⟨rfl, hi, hb, hk⟩; refine ⟨_, rfl, ?_⟩; have n0_ := am (KeepBut.trans qK hk (.inl rfl)); have n1_ := am (hb); replace HI0 := am (hi); clear HK HB; have HK := n0_; have HB := n1_; clear n0_ n1_; (try clear hb); (try clear hb2); (try clear hk); (try clear hi)))
    go_ret
    exact ⟨qr, qI67, qB, qK⟩
  ·rw [if_neg c5] at H
   have c5b0 : decide (200 < a1) = false := decide_eq_false c5
   clear c5
   by_cases c10 : a1 = 0
   ·rw [if_pos c10] at H
    exact absurd H (by simp)
   ·rw [if_neg c10] at H
    have c10b0 : (a1 == 0) = false := beq_eq_false_iff_ne.mpr c10
    have c10b1 : (a1 != 0) = true := bne_iff_ne.mpr c10
    simp only [Option.some.injEq, Prod.mk.injEq] at H
    obtain ⟨rfl, rfl, rfl⟩ := H
    go_enter Try.func68, Try.ntmps68
    go_wp2_with (((with_reducible refine gate_callee (f := 126) rfl ?_); refine gL (some 9) Try.func126 #[.pointer (some ⟨g, 0, none⟩)] ?_; (with_reducible refine (spec_l1Cur_next.calls g s0_0 s0_1 s0_2 t116 t117 t118 w0 _ ?side1 ?side2 A4.out).mono ?_); (case side1 => exact qI67); (case side2 => exact qB); rintro e w11 ⟨rfl, hi, hb, hk⟩; refine ⟨_, rfl, ?_⟩; have n0_ := am (KeepBut.trans qK hk (.inl rfl)); have n1_ := am (hb); replace HI0 := am (hi); clear HK HB; have HK := n0_; have HB := n1_; clear n0_ n1_; (try clear hb); (try clear hb2); (try clear hk); (try clear hi)))
    go_ret
    exact ⟨qr, qI67, qB, qK⟩
def spec_l1Cur_among.f (s0_0 : List Int) (s0_1 : Int) (s0_2 : Int) (l1 : List Int) : Option (Int × Int × Int) := (spec_l1Cur_pick.f s0_0 s0_1 s0_2 (l1.length : Int)).bind fun bt122 => (if 0 ≤ bt122.1 then (if bt122.1 < (l1.length : Int) then (some (rd l1 bt122.1, bt122.2.1, bt122.2.2)) else (none)) else (none))
set_option maxHeartbeats 8000000 in
set_option maxRecDepth 100000 in
theorem spec_l1Cur_among.calls (g : Nat) (s0_0 : List Int) (s0_1 : Int) (s0_2 : Int) (A1 : Option Addr) (c1 : Nat) (l1 : List Int) (r1 : Int) (r2 : Int) (r3 : Int) (w0 w : World) (hI : IsS67 w0 w g s0_0 s0_1 s0_2) (hB : Below w0.heap.size w0 w) (hr1 : Kd.C (Kd.int .i64) w A1 l1.length l1) (hc1 : l1.length ≤ c1) (hf1 : ∀ ad, A1 = some ad → 0 < l1.length → ad.block ≠ g) (h : spec_l1Cur_among.f s0_0 s0_1 s0_2 l1 = some (r1, r2, r3)) :
 Calls Try.prog 67 #[.pointer (some ⟨g, 0, none⟩), .slice A1 l1.length c1] w fun e w' => e = .returned (.int .i64 r1) ∧ IsS67 w0 w' g s0_0 r2 r3 ∧ Below w0.heap.size w0 w' ∧ KeepBut w w' g none := by
 have HR1 := am hr1
 have HC1 := am hc1
 clear hr1 hc1
 have HI0 := am hI
 have HK := am (KeepBut.refl w g none)
 have HL := am hB.size
 clear hI
 have HW0 := am hB.size
 have HB := am hB
 clear hB
 have H := h
 unfold spec_l1Cur_among.f at H
 clear h
 replace H := Option.bind_eq_some_iff.mp H
 obtain ⟨⟨t122, t123, t124⟩, A30, H⟩ := H
 (try dsimp only at H)
 have A3 := am A30
 clear A30
 by_cases c4 : 0 ≤ t122
 ·rw [if_pos c4] at H
  have c4b0 := decide_eq_true c4
  clear c4
  by_cases c5 : t122 < (l1.length : Int)
  rotate_left
  ·rw [if_neg c5] at H
   exact absurd H (by simp)
  rw [if_pos c5] at H
  have c5b0 := decide_eq_true c5
  clear c5
  simp only [Option.some.injEq, Prod.mk.injEq] at H
  obtain ⟨rfl, rfl, rfl⟩ := H
  go_enter Try.func67, Try.ntmps67
  go_wp2_with (((with_reducible refine gate_callee (f := 68) rfl ?_); refine gL (some 9) Try.func68 #[.pointer (some ⟨g, 0, none⟩), .int .i64 (l1.length : Int)] ?_; (with_reducible refine (spec_l1Cur_pick.calls g s0_0 s0_1 s0_2 (l1.length : Int) t122 t123 t124 w0 _ ?side1 ?side2 A3.out).mono ?_); (case side1 => exact qI67); (case side2 => exact qB); rintro e w6 ⟨rfl, hi, hb, hk⟩; refine ⟨_, rfl, ?_⟩; have n0_ := am (KeepBut.trans qK hk (.inl rfl)); have n1_ := am (hb); replace HI0 := am (hi); clear HK HB; have HK := n0_; have HB := n1_; clear n0_ n1_; (try clear hb); (try clear hb2); (try clear hk); (try clear hi); have p125 : 0 ≤ (t122 : Int) := qd; have q125 : t122 < (l1.length : Int) := qd; obtain ⟨ad125, e125, hx125_0⟩ := Kd.at_int HR1.out t122 p125 q125; cases e125; replace hx125_0 := keep_cell HK.out hx125_0 (by first | (rw [add_block]; exact hf1 _ rfl (by omega)) | exact hf1 _ rfl (by omega) | exact hf1 ad125 rfl (by omega)); replace p125 := eq_true p125; replace q125 := eq_true q125))
  go_ret
  exact ⟨qr, qI67, qB, qK⟩
 ·rw [if_neg c4] at H
  exact absurd H (by simp)
def spec_l1Cur_one.f (s0_0 : List Int) (s0_1 : Int) (s0_2 : Int) (a1 : Int) : Option (Bool × Int × Int) := (spec_l1Cur_pick.f s0_0 s0_1 s0_2 a1).bind fun bt260 => (some ((bt260.1 == 0), bt260.2.1, bt260.2.2))
set_option maxHeartbeats 8000000 in
set_option maxRecDepth 100000 in
theorem spec_l1Cur_one.calls (g : Nat) (s0_0 : List Int) (s0_1 : Int) (s0_2 : Int) (a1 : Int) (r1 : Bool) (r2 : Int) (r3 : Int) (w0 w : World) (hI : IsS67 w0 w g s0_0 s0_1 s0_2) (hB : Below w0.heap.size w0 w) (h : spec_l1Cur_one.f s0_0 s0_1 s0_2 a1 = some (r1, r2, r3)) :
 Calls Try.prog 66 #[.pointer (some ⟨g, 0, none⟩), .int .i64 a1] w fun e w' => e = .returned (.bool r1) ∧ IsS67 w0 w' g s0_0 r2 r3 ∧ Below w0.heap.size w0 w' ∧ KeepBut w w' g none := by
 have HI0 := am hI
 have HK := am (KeepBut.refl w g none)
 have HL := am hB.size
 clear hI
 have HW0 := am hB.size
 have HB := am hB
 clear hB
 have H := h
 unfold spec_l1Cur_one.f at H
 clear h
 replace H := Option.bind_eq_some_iff.mp H
 obtain ⟨⟨t260, t261, t262⟩, A30, H⟩ := H
 (try dsimp only at H)
 have A3 := am A30
 clear A30
 simp only [Option.some.injEq, Prod.mk.injEq] at H
 obtain ⟨rfl, rfl, rfl⟩ := H
 go_enter Try.func66, Try.ntmps66
 go_wp2_with (((with_reducible refine gate_callee (f := 68) rfl ?_); refine gL (some 7) Try.func68 #[.pointer (some ⟨g, 0, none⟩), .int .i64 a1] ?_; (with_reducible refine (spec_l1Cur_pick.calls g s0_0 s0_1 s0_2 a1 t260 t261 t262 w0 _ ?side1 ?side2 A3.out).mono ?_); (case side1 => exact qI67); (case side2 => exact qB); rintro e w4 ⟨rfl, hi, hb, hk⟩; refine ⟨_, rfl, ?_⟩; have n0_ := am (KeepBut.trans qK hk (.inl rfl)); have n1_ := am (hb); replace HI0 := am (hi); clear HK HB; have HK := n0_; have HB := n1_; clear n0_ n1_; (try clear hb); (try clear hb2); (try clear hk); (try clear hi)))
 go_ret
 exact ⟨qr, qI67, qB, qK⟩
def spec_l1Cur_bound.f (s0_0 : List Int) (s0_1 : Int) (s0_2 : Int) (a1 : Int) : Option (Int × Int × Int) := (spec_l1Cur_one.f s0_0 s0_1 s0_2 10).bind fun bt263 => (if bt263.1 = true then ((spec_l1Cur_among.f s0_0 bt263.2.1 bt263.2.2 (([(-1), 0, 12, 13] : List Int))).bind fun bt269 => (some (bt269.1, bt269.2.1, bt269.2.2))) else ((spec_l1Cur_pick.f s0_0 bt263.2.1 bt263.2.2 (wrap64 (a1 + 1))).bind fun bt272 => (some (bt272.1, bt272.2.1, bt272.2.2))))
set_option maxHeartbeats 8000000 in
set_option maxRecDepth 100000 in
theorem spec_l1Cur_bound.calls (g : Nat) (s0_0 : List Int) (s0_1 : Int) (s0_2 : Int) (a1 : Int) (r1 : Int) (r2 : Int) (r3 : Int) (w0 w : World) (hI : IsS67 w0 w g s0_0 s0_1 s0_2) (hB : Below w0.heap.size w0 w) (h : spec_l1Cur_bound.f s0_0 s0_1 s0_2 a1 = some (r1, r2, r3)) :
 Calls Try.prog 65 #[.pointer (some ⟨g, 0, none⟩), .int .i64 a1] w fun e w' => e = .returned (.int .i64 r1) ∧ IsS67 w0 w' g s0_0 r2 r3 ∧ Below w0.heap.size w0 w' ∧ KeepBut w w' g none := by
 have HI0 := am hI
 have HK := am (KeepBut.refl w g none)
 have HL := am hB.size
 clear hI
 have HW0 := am hB.size
 have HB := am hB
 clear hB
 have H := h
 unfold spec_l1Cur_bound.f at H
 clear h
 replace H := Option.bind_eq_some_iff.mp H
 obtain ⟨⟨t263, t264, t265⟩, A30, H⟩ := H
 (try dsimp only at H)
 have A3 := am A30
 clear A30
 by_cases c4 : t263 = true
 ·subst c4
  rw [if_pos rfl] at H
  obtain ⟨y266, hy266⟩ : ∃ y_ : List Int, y_ = (([(-1), 0, 12, 13] : List Int)) := ⟨_, rfl⟩
  first | rw [← hy266] at H | (have H2_ := (Option.bind_some _ _).symm.trans H; clear H; have H := H2_; clear H2_; rw [← hy266] at H)
  have Ny266 := am hy266
  clear hy266
  replace H := Option.bind_eq_some_iff.mp H
  obtain ⟨⟨t269, t270, t271⟩, A50, H⟩ := H
  (try dsimp only at H)
  have A5 := am A50
  clear A50
  simp only [Option.some.injEq, Prod.mk.injEq] at H
  obtain ⟨rfl, rfl, rfl⟩ := H
  go_enter Try.func65, Try.ntmps65
  go_wp2_with (first | ((with_reducible refine gate_callee (f := 66) rfl ?_); refine gL (some 6) Try.func66 #[.pointer (some ⟨g, 0, none⟩), .int .i64 10] ?_; (with_reducible refine (spec_l1Cur_one.calls g s0_0 s0_1 s0_2 10 true t264 t265 w0 _ ?side1 ?side2 A3.out).mono ?_); (case side1 => exact qI67); (case side2 => exact qB); rintro e w6 ⟨rfl, hi, hb, hk⟩; refine ⟨_, rfl, ?_⟩; have n0_ := am (KeepBut.trans qK hk (.inl rfl)); have n1_ := am (hb); replace HI0 := am (hi); clear HK HB; have HK := n0_; have HB := n1_; clear n0_ n1_; (try clear hb); (try clear hb2); (try clear hk); (try clear hi)) | ((with_reducible refine gate_dst (N := 8) rfl ?_); refine Kd.R_lit (Kd.int .i64) _ 3 ?hg (N := 8) ?hd (xs := ([(-1), 0, 12, 13] : List Int)) (inner := [.int .i64 (-1), .int .i64 0, .int .i64 12, .int .i64 13]) (ok := fun _ => True) (okp := fun _ => True) ?hr ?hp (fun _ hk => hk) trivial (Below.refl _ _) (Nat.le_refl _) (by simp) ?_; (case hd => rfl); (case hg => rfl); (case hr => first | (go_simp; done) | (go_simp; rfl)); (case hp => exact (Reps.one (show Kd.M (Kd.int .i64) _ _ _ (-1) [.int .i64 (-1)] from rfl) (Reps.one (show Kd.M (Kd.int .i64) _ _ _ 0 [.int .i64 0] from rfl) (Reps.one (show Kd.M (Kd.int .i64) _ _ _ 12 [.int .i64 12] from rfl) (Reps.one (show Kd.M (Kd.int .i64) _ _ _ 13 [.int .i64 13] from rfl) (Reps.none _ _)))))); intro v267 w7 ho8 hb hg_ hnew_; clear hg_ hnew_; (first | rw [← Ny266.out] at ho8 | (simp only [Int.reduceToNat] at ho8; rw [← Ny266.out] at ho8)); have HO268 := am (Kd.R_lower ho8 (keep_size (w := w) (g := g) (row := none) qK)); have n1_ := am (IsS67.below qI67 hb); have n2_ := am (KeepBut.trans qK (KeepBut.of_below hb g none) (.inl rfl)); replace HB := am (below_step qB hb); clear HI0 HK; have HI0 := n1_; have HK := n2_; clear n1_ n2_; clear hb ho8; obtain ⟨Ao9, co9, eo9⟩ := Kd.R_slice HO268.out; subst eo9) | ((with_reducible refine gate_callee (f := 67) rfl ?_); refine gL (some 9) Try.func67 #[.pointer (some ⟨g, 0, none⟩), .slice Ao9 y266.length co9] ?_; (with_reducible refine (spec_l1Cur_among.calls g s0_0 t264 t265 _ _ y266 t269 t270 t271 w0 _ ?side1 ?side2 ?side3 ?side4 ?side5 A5.out).mono ?_); (case side1 => exact qI67); (case side2 => exact qB); (case side3 => exact qC (Kd.R_reads' HO268.out).2.2); (case side4 => exact (Kd.R_reads' HO268.out).2.1); (case side5 => exact far_slice (IsS67.own_ne HI0.out HO268.out (by decide))); rintro e w10 ⟨rfl, hi, hb, hk⟩; refine ⟨_, rfl, ?_⟩; replace HO268 := am (Kd.R_mono (Kd.R_keep (IsS67.apart (show IsS67 w0 _ g s0_0 t264 t265 from qI67) (qR HO268.out) (by decide)) hk (fun _ h => h.2)) (fun _ h => h.1)); have n1_ := am (KeepBut.trans qK hk (.inl rfl)); have n2_ := am (hb); replace HI0 := am (hi); clear HK HB; have HK := n1_; have HB := n2_; clear n1_ n2_; (try clear hb); (try clear hb2); (try clear hk); (try clear hi)))
  go_ret
  exact ⟨qr, qI67, qB, qK⟩
 ·replace c4 := Bool.eq_false_iff.mpr c4
  subst c4
  rw [if_neg (show ¬ (false = true) by decide)] at H
  replace H := Option.bind_eq_some_iff.mp H
  obtain ⟨⟨t272, t273, t274⟩, A110, H⟩ := H
  (try dsimp only at H)
  have A11 := am A110
  clear A110
  simp only [Option.some.injEq, Prod.mk.injEq] at H
  obtain ⟨rfl, rfl, rfl⟩ := H
  go_enter Try.func65, Try.ntmps65
  go_wp2_with (first | ((with_reducible refine gate_callee (f := 66) rfl ?_); refine gL (some 6) Try.func66 #[.pointer (some ⟨g, 0, none⟩), .int .i64 10] ?_; (with_reducible refine (spec_l1Cur_one.calls g s0_0 s0_1 s0_2 10 false t264 t265 w0 _ ?side1 ?side2 A3.out).mono ?_); (case side1 => exact qI67); (case side2 => exact qB); rintro e w12 ⟨rfl, hi, hb, hk⟩; refine ⟨_, rfl, ?_⟩; have n0_ := am (KeepBut.trans qK hk (.inl rfl)); have n1_ := am (hb); replace HI0 := am (hi); clear HK HB; have HK := n0_; have HB := n1_; clear n0_ n1_; (try clear hb); (try clear hb2); (try clear hk); (try clear hi)) | ((with_reducible refine gate_callee (f := 68) rfl ?_); refine gL (some 13) Try.func68 #[.pointer (some ⟨g, 0, none⟩), .int .i64 (wrap64 (a1 + 1))] ?_; (with_reducible refine (spec_l1Cur_pick.calls g s0_0 t264 t265 (wrap64 (a1 + 1)) t272 t273 t274 w0 _ ?side1 ?side2 A11.out).mono ?_); (case side1 => exact qI67); (case side2 => exact qB); rintro e w13 ⟨rfl, hi, hb, hk⟩; refine ⟨_, rfl, ?_⟩; have n0_ := am (KeepBut.trans qK hk (.inl rfl)); have n1_ := am (hb); replace HI0 := am (hi); clear HK HB; have HK := n0_; have HB := n1_; clear n0_ n1_; (try clear hb); (try clear hb2); (try clear hk); (try clear hi)))
  go_ret
  exact ⟨qr, qI67, qB, qK⟩
def spec_l1Cur_sides.f (s0_0 : List Int) (s0_1 : Int) (s0_2 : Int) : Option (Int × Int × Int × Int) := (some (([(([1, 1] : List Int)), (([1, 4] : List Int)), (([2, 2] : List Int)), (([2, 3] : List Int)), (([3, 2] : List Int)), (([2, 4] : List Int)), (([4, 2] : List Int)), (([3, 3] : List Int)), (([2, 5] : List Int)), (([5, 2] : List Int)), (([3, 1] : List Int))] : List (List Int)) : List (List Int))).bind fun y822 => ((spec_l1Cur_one.f s0_0 s0_1 s0_2 10).bind fun bt825 => (if bt825.1 = true then ((spec_l1Cur_pick.f s0_0 bt825.2.1 bt825.2.2 13).bind fun bt828 => ((spec_l1Cur_pick.f s0_0 bt828.2.1 bt828.2.2 13).bind fun bt831 => (some (wrap64 (bt828.1 - 1), wrap64 (bt831.1 - 1), bt831.2.1, bt831.2.2)))) else ((spec_l1Cur_pick.f s0_0 bt825.2.1 bt825.2.2 (y822.length : Int)).bind fun bt834 => (if 0 ≤ bt834.1 then (if bt834.1 < (y822.length : Int) then (if 0 < ((rd_L1 y822 bt834.1).length : Int) then (if 1 < ((rd_L1 y822 bt834.1).length : Int) then (some (rd (rd_L1 y822 bt834.1) 0, rd (rd_L1 y822 bt834.1) 1, bt834.2.1, bt834.2.2)) else (none)) else (none)) else (none)) else (none)))))
set_option maxHeartbeats 8000000 in
set_option maxRecDepth 100000 in
theorem spec_l1Cur_sides.calls (g : Nat) (s0_0 : List Int) (s0_1 : Int) (s0_2 : Int) (r1 : Int) (r2 : Int) (r3 : Int) (r4 : Int) (w0 w : World) (hI : IsS67 w0 w g s0_0 s0_1 s0_2) (hB : Below w0.heap.size w0 w) (h : spec_l1Cur_sides.f s0_0 s0_1 s0_2 = some (r1, r2, r3, r4)) :
 Calls Try.prog 140 #[.pointer (some ⟨g, 0, none⟩)] w fun e w' => e = .returned (.tuple #[.int .i64 r1, .int .i64 r2]) ∧ IsS67 w0 w' g s0_0 r3 r4 ∧ Below w0.heap.size w0 w' ∧ KeepBut w w' g none := by
 have HI0 := am hI
 have HK := am (KeepBut.refl w g none)
 have HL := am hB.size
 clear hI
 have HW0 := am hB.size
 have HB := am hB
 clear hB
 have H := h
 unfold spec_l1Cur_sides.f at H
 clear h
 obtain ⟨y789, hy789⟩ : ∃ y_ : List Int, y_ = (([1, 1] : List Int)) := ⟨_, rfl⟩
 replace H : ((some (([y789, (([1, 4] : List Int)), (([2, 2] : List Int)), (([2, 3] : List Int)), (([3, 2] : List Int)), (([2, 4] : List Int)), (([4, 2] : List Int)), (([3, 3] : List Int)), (([2, 5] : List Int)), (([5, 2] : List Int)), (([3, 1] : List Int))] : List (List Int)) : List (List Int))).bind fun y822 => ((spec_l1Cur_one.f s0_0 s0_1 s0_2 10).bind fun bt825 => (if bt825.1 = true then ((spec_l1Cur_pick.f s0_0 bt825.2.1 bt825.2.2 13).bind fun bt828 => ((spec_l1Cur_pick.f s0_0 bt828.2.1 bt828.2.2 13).bind fun bt831 => (some (wrap64 (bt828.1 - 1), wrap64 (bt831.1 - 1), bt831.2.1, bt831.2.2)))) else ((spec_l1Cur_pick.f s0_0 bt825.2.1 bt825.2.2 (y822.length : Int)).bind fun bt834 => (if 0 ≤ bt834.1 then (if bt834.1 < (y822.length : Int) then (if 0 < ((rd_L1 y822 bt834.1).length : Int) then (if 1 < ((rd_L1 y822 bt834.1).length : Int) then (some (rd (rd_L1 y822 bt834.1) 0, rd (rd_L1 y822 bt834.1) 1, bt834.2.1, bt834.2.2)) else (none)) else (none)) else (none)) else (none)))))) = some (r1, r2, r3, r4) := by first | (rw [hy789]; with_reducible exact H) | (have H2_ := (Option.bind_some _ _).symm.trans H; rw [hy789]; with_reducible exact H2_) | (have H2_ := (Option.bind_some _ _).symm.trans H; with_reducible exact H2_) | with_reducible exact H | (rw [hy789]; exact H) | exact H
 have Ny789 := am hy789
 clear hy789
 obtain ⟨y792, hy792⟩ : ∃ y_ : List Int, y_ = (([1, 4] : List Int)) := ⟨_, rfl⟩
 replace H : ((some (([y789, y792, (([2, 2] : List Int)), (([2, 3] : List Int)), (([3, 2] : List Int)), (([2, 4] : List Int)), (([4, 2] : List Int)), (([3, 3] : List Int)), (([2, 5] : List Int)), (([5, 2] : List Int)), (([3, 1] : List Int))] : List (List Int)) : List (List Int))).bind fun y822 => ((spec_l1Cur_one.f s0_0 s0_1 s0_2 10).bind fun bt825 => (if bt825.1 = true then ((spec_l1Cur_pick.f s0_0 bt825.2.1 bt825.2.2 13).bind fun bt828 => ((spec_l1Cur_pick.f s0_0 bt828.2.1 bt828.2.2 13).bind fun bt831 => (some (wrap64 (bt828.1 - 1), wrap64 (bt831.1 - 1), bt831.2.1, bt831.2.2)))) else ((spec_l1Cur_pick.f s0_0 bt825.2.1 bt825.2.2 (y822.length : Int)).bind fun bt834 => (if 0 ≤ bt834.1 then (if bt834.1 < (y822.length : Int) then (if 0 < ((rd_L1 y822 bt834.1).length : Int) then (if 1 < ((rd_L1 y822 bt834.1).length : Int) then (some (rd (rd_L1 y822 bt834.1) 0, rd (rd_L1 y822 bt834.1) 1, bt834.2.1, bt834.2.2)) else (none)) else (none)) else (none)) else (none)))))) = some (r1, r2, r3, r4) := by first | (rw [hy792]; with_reducible exact H) | (have H2_ := (Option.bind_some _ _).symm.trans H; rw [hy792]; with_reducible exact H2_) | (have H2_ := (Option.bind_some _ _).symm.trans H; with_reducible exact H2_) | with_reducible exact H | (rw [hy792]; exact H) | exact H
 have Ny792 := am hy792
 clear hy792
 obtain ⟨y795, hy795⟩ : ∃ y_ : List Int, y_ = (([2, 2] : List Int)) := ⟨_, rfl⟩
 replace H : ((some (([y789, y792, y795, (([2, 3] : List Int)), (([3, 2] : List Int)), (([2, 4] : List Int)), (([4, 2] : List Int)), (([3, 3] : List Int)), (([2, 5] : List Int)), (([5, 2] : List Int)), (([3, 1] : List Int))] : List (List Int)) : List (List Int))).bind fun y822 => ((spec_l1Cur_one.f s0_0 s0_1 s0_2 10).bind fun bt825 => (if bt825.1 = true then ((spec_l1Cur_pick.f s0_0 bt825.2.1 bt825.2.2 13).bind fun bt828 => ((spec_l1Cur_pick.f s0_0 bt828.2.1 bt828.2.2 13).bind fun bt831 => (some (wrap64 (bt828.1 - 1), wrap64 (bt831.1 - 1), bt831.2.1, bt831.2.2)))) else ((spec_l1Cur_pick.f s0_0 bt825.2.1 bt825.2.2 (y822.length : Int)).bind fun bt834 => (if 0 ≤ bt834.1 then (if bt834.1 < (y822.length : Int) then (if 0 < ((rd_L1 y822 bt834.1).length : Int) then (if 1 < ((rd_L1 y822 bt834.1).length : Int) then (some (rd (rd_L1 y822 bt834.1) 0, rd (rd_L1 y822 bt834.1) 1, bt834.2.1, bt834.2.2)) else (none)) else (none)) else (none)) else (none)))))) = some (r1, r2, r3, r4) := by first | (rw [hy795]; with_reducible exact H) | (have H2_ := (Option.bind_some _ _).symm.trans H; rw [hy795]; with_reducible exact H2_) | (have H2_ := (Option.bind_some _ _).symm.trans H; with_reducible exact H2_) | with_reducible exact H | (rw [hy795]; exact H) | exact H
 have Ny795 := am hy795
 clear hy795
 obtain ⟨y798, hy798⟩ : ∃ y_ : List Int, y_ = (([2, 3] : List Int)) := ⟨_, rfl⟩
 replace H : ((some (([y789, y792, y795, y798, (([3, 2] : List Int)), (([2, 4] : List Int)), (([4, 2] : List Int)), (([3, 3] : List Int)), (([2, 5] : List Int)), (([5, 2] : List Int)), (([3, 1] : List Int))] : List (List Int)) : List (List Int))).bind fun y822 => ((spec_l1Cur_one.f s0_0 s0_1 s0_2 10).bind fun bt825 => (if bt825.1 = true then ((spec_l1Cur_pick.f s0_0 bt825.2.1 bt825.2.2 13).bind fun bt828 => ((spec_l1Cur_pick.f s0_0 bt828.2.1 bt828.2.2 13).bind fun bt831 => (some (wrap64 (bt828.1 - 1), wrap64 (bt831.1 - 1), bt831.2.1, bt831.2.2)))) else ((spec_l1Cur_pick.f s0_0 bt825.2.1 bt825.2.2 (y822.length : Int)).bind fun bt834 => (if 0 ≤ bt834.1 then (if bt834.1 < (y822.length : Int) then (if 0 < ((rd_L1 y822 bt834.1).length : Int) then (if 1 < ((rd_L1 y822 bt834.1).length : Int) then (some (rd (rd_L1 y822 bt834.1) 0, rd (rd_L1 y822 bt834.1) 1, bt834.2.1, bt834.2.2)) else (none)) else (none)) else (none)) else (none)))))) = some (r1, r2, r3, r4) := by first | (rw [hy798]; with_reducible exact H) | (have H2_ := (Option.bind_some _ _).symm.trans H; rw [hy798]; with_reducible exact H2_) | (have H2_ := (Option.bind_some _ _).symm.trans H; with_reducible exact H2_) | with_reducible exact H | (rw [hy798]; exact H) | exact H
 have Ny798 := am hy798
 clear hy798
 obtain ⟨y801, hy801⟩ : ∃ y_ : List Int, y_ = (([3, 2] : List Int)) := ⟨_, rfl⟩
 replace H : ((some (([y789, y792, y795, y798, y801, (([2, 4] : List Int)), (([4, 2] : List Int)), (([3, 3] : List Int)), (([2, 5] : List Int)), (([5, 2] : List Int)), (([3, 1] : List Int))] : List (List Int)) : List (List Int))).bind fun y822 => ((spec_l1Cur_one.f s0_0 s0_1 s0_2 10).bind fun bt825 => (if bt825.1 = true then ((spec_l1Cur_pick.f s0_0 bt825.2.1 bt825.2.2 13).bind fun bt828 => ((spec_l1Cur_pick.f s0_0 bt828.2.1 bt828.2.2 13).bind fun bt831 => (some (wrap64 (bt828.1 - 1), wrap64 (bt831.1 - 1), bt831.2.1, bt831.2.2)))) else ((spec_l1Cur_pick.f s0_0 bt825.2.1 bt825.2.2 (y822.length : Int)).bind fun bt834 => (if 0 ≤ bt834.1 then (if bt834.1 < (y822.length : Int) then (if 0 < ((rd_L1 y822 bt834.1).length : Int) then (if 1 < ((rd_L1 y822 bt834.1).length : Int) then (some (rd (rd_L1 y822 bt834.1) 0, rd (rd_L1 y822 bt834.1) 1, bt834.2.1, bt834.2.2)) else (none)) else (none)) else (none)) else (none)))))) = some (r1, r2, r3, r4) := by first | (rw [hy801]; with_reducible exact H) | (have H2_ := (Option.bind_some _ _).symm.trans H; rw [hy801]; with_reducible exact H2_) | (have H2_ := (Option.bind_some _ _).symm.trans H; with_reducible exact H2_) | with_reducible exact H | (rw [hy801]; exact H) | exact H
 have Ny801 := am hy801
 clear hy801
 obtain ⟨y804, hy804⟩ : ∃ y_ : List Int, y_ = (([2, 4] : List Int)) := ⟨_, rfl⟩
 replace H : ((some (([y789, y792, y795, y798, y801, y804, (([4, 2] : List Int)), (([3, 3] : List Int)), (([2, 5] : List Int)), (([5, 2] : List Int)), (([3, 1] : List Int))] : List (List Int)) : List (List Int))).bind fun y822 => ((spec_l1Cur_one.f s0_0 s0_1 s0_2 10).bind fun bt825 => (if bt825.1 = true then ((spec_l1Cur_pick.f s0_0 bt825.2.1 bt825.2.2 13).bind fun bt828 => ((spec_l1Cur_pick.f s0_0 bt828.2.1 bt828.2.2 13).bind fun bt831 => (some (wrap64 (bt828.1 - 1), wrap64 (bt831.1 - 1), bt831.2.1, bt831.2.2)))) else ((spec_l1Cur_pick.f s0_0 bt825.2.1 bt825.2.2 (y822.length : Int)).bind fun bt834 => (if 0 ≤ bt834.1 then (if bt834.1 < (y822.length : Int) then (if 0 < ((rd_L1 y822 bt834.1).length : Int) then (if 1 < ((rd_L1 y822 bt834.1).length : Int) then (some (rd (rd_L1 y822 bt834.1) 0, rd (rd_L1 y822 bt834.1) 1, bt834.2.1, bt834.2.2)) else (none)) else (none)) else (none)) else (none)))))) = some (r1, r2, r3, r4) := by first | (rw [hy804]; with_reducible exact H) | (have H2_ := (Option.bind_some _ _).symm.trans H; rw [hy804]; with_reducible exact H2_) | (have H2_ := (Option.bind_some _ _).symm.trans H; with_reducible exact H2_) | with_reducible exact H | (rw [hy804]; exact H) | exact H
 have Ny804 := am hy804
 clear hy804
 obtain ⟨y807, hy807⟩ : ∃ y_ : List Int, y_ = (([4, 2] : List Int)) := ⟨_, rfl⟩
 replace H : ((some (([y789, y792, y795, y798, y801, y804, y807, (([3, 3] : List Int)), (([2, 5] : List Int)), (([5, 2] : List Int)), (([3, 1] : List Int))] : List (List Int)) : List (List Int))).bind fun y822 => ((spec_l1Cur_one.f s0_0 s0_1 s0_2 10).bind fun bt825 => (if bt825.1 = true then ((spec_l1Cur_pick.f s0_0 bt825.2.1 bt825.2.2 13).bind fun bt828 => ((spec_l1Cur_pick.f s0_0 bt828.2.1 bt828.2.2 13).bind fun bt831 => (some (wrap64 (bt828.1 - 1), wrap64 (bt831.1 - 1), bt831.2.1, bt831.2.2)))) else ((spec_l1Cur_pick.f s0_0 bt825.2.1 bt825.2.2 (y822.length : Int)).bind fun bt834 => (if 0 ≤ bt834.1 then (if bt834.1 < (y822.length : Int) then (if 0 < ((rd_L1 y822 bt834.1).length : Int) then (if 1 < ((rd_L1 y822 bt834.1).length : Int) then (some (rd (rd_L1 y822 bt834.1) 0, rd (rd_L1 y822 bt834.1) 1, bt834.2.1, bt834.2.2)) else (none)) else (none)) else (none)) else (none)))))) = some (r1, r2, r3, r4) := by first | (rw [hy807]; with_reducible exact H) | (have H2_ := (Option.bind_some _ _).symm.trans H; rw [hy807]; with_reducible exact H2_) | (have H2_ := (Option.bind_some _ _).symm.trans H; with_reducible exact H2_) | with_reducible exact H | (rw [hy807]; exact H) | exact H
 have Ny807 := am hy807
 clear hy807
 obtain ⟨y810, hy810⟩ : ∃ y_ : List Int, y_ = (([3, 3] : List Int)) := ⟨_, rfl⟩
 replace H : ((some (([y789, y792, y795, y798, y801, y804, y807, y810, (([2, 5] : List Int)), (([5, 2] : List Int)), (([3, 1] : List Int))] : List (List Int)) : List (List Int))).bind fun y822 => ((spec_l1Cur_one.f s0_0 s0_1 s0_2 10).bind fun bt825 => (if bt825.1 = true then ((spec_l1Cur_pick.f s0_0 bt825.2.1 bt825.2.2 13).bind fun bt828 => ((spec_l1Cur_pick.f s0_0 bt828.2.1 bt828.2.2 13).bind fun bt831 => (some (wrap64 (bt828.1 - 1), wrap64 (bt831.1 - 1), bt831.2.1, bt831.2.2)))) else ((spec_l1Cur_pick.f s0_0 bt825.2.1 bt825.2.2 (y822.length : Int)).bind fun bt834 => (if 0 ≤ bt834.1 then (if bt834.1 < (y822.length : Int) then (if 0 < ((rd_L1 y822 bt834.1).length : Int) then (if 1 < ((rd_L1 y822 bt834.1).length : Int) then (some (rd (rd_L1 y822 bt834.1) 0, rd (rd_L1 y822 bt834.1) 1, bt834.2.1, bt834.2.2)) else (none)) else (none)) else (none)) else (none)))))) = some (r1, r2, r3, r4) := by first | (rw [hy810]; with_reducible exact H) | (have H2_ := (Option.bind_some _ _).symm.trans H; rw [hy810]; with_reducible exact H2_) | (have H2_ := (Option.bind_some _ _).symm.trans H; with_reducible exact H2_) | with_reducible exact H | (rw [hy810]; exact H) | exact H
 have Ny810 := am hy810
 clear hy810
 obtain ⟨y813, hy813⟩ : ∃ y_ : List Int, y_ = (([2, 5] : List Int)) := ⟨_, rfl⟩
 replace H : ((some (([y789, y792, y795, y798, y801, y804, y807, y810, y813, (([5, 2] : List Int)), (([3, 1] : List Int))] : List (List Int)) : List (List Int))).bind fun y822 => ((spec_l1Cur_one.f s0_0 s0_1 s0_2 10).bind fun bt825 => (if bt825.1 = true then ((spec_l1Cur_pick.f s0_0 bt825.2.1 bt825.2.2 13).bind fun bt828 => ((spec_l1Cur_pick.f s0_0 bt828.2.1 bt828.2.2 13).bind fun bt831 => (some (wrap64 (bt828.1 - 1), wrap64 (bt831.1 - 1), bt831.2.1, bt831.2.2)))) else ((spec_l1Cur_pick.f s0_0 bt825.2.1 bt825.2.2 (y822.length : Int)).bind fun bt834 => (if 0 ≤ bt834.1 then (if bt834.1 < (y822.length : Int) then (if 0 < ((rd_L1 y822 bt834.1).length : Int) then (if 1 < ((rd_L1 y822 bt834.1).length : Int) then (some (rd (rd_L1 y822 bt834.1) 0, rd (rd_L1 y822 bt834.1) 1, bt834.2.1, bt834.2.2)) else (none)) else (none)) else (none)) else (none)))))) = some (r1, r2, r3, r4) := by first | (rw [hy813]; with_reducible exact H) | (have H2_ := (Option.bind_some _ _).symm.trans H; rw [hy813]; with_reducible exact H2_) | (have H2_ := (Option.bind_some _ _).symm.trans H; with_reducible exact H2_) | with_reducible exact H | (rw [hy813]; exact H) | exact H
 have Ny813 := am hy813
 clear hy813
 obtain ⟨y816, hy816⟩ : ∃ y_ : List Int, y_ = (([5, 2] : List Int)) := ⟨_, rfl⟩
 replace H : ((some (([y789, y792, y795, y798, y801, y804, y807, y810, y813, y816, (([3, 1] : List Int))] : List (List Int)) : List (List Int))).bind fun y822 => ((spec_l1Cur_one.f s0_0 s0_1 s0_2 10).bind fun bt825 => (if bt825.1 = true then ((spec_l1Cur_pick.f s0_0 bt825.2.1 bt825.2.2 13).bind fun bt828 => ((spec_l1Cur_pick.f s0_0 bt828.2.1 bt828.2.2 13).bind fun bt831 => (some (wrap64 (bt828.1 - 1), wrap64 (bt831.1 - 1), bt831.2.1, bt831.2.2)))) else ((spec_l1Cur_pick.f s0_0 bt825.2.1 bt825.2.2 (y822.length : Int)).bind fun bt834 => (if 0 ≤ bt834.1 then (if bt834.1 < (y822.length : Int) then (if 0 < ((rd_L1 y822 bt834.1).length : Int) then (if 1 < ((rd_L1 y822 bt834.1).length : Int) then (some (rd (rd_L1 y822 bt834.1) 0, rd (rd_L1 y822 bt834.1) 1, bt834.2.1, bt834.2.2)) else (none)) else (none)) else (none)) else (none)))))) = some (r1, r2, r3, r4) := by first | (rw [hy816]; with_reducible exact H) | (have H2_ := (Option.bind_some _ _).symm.trans H; rw [hy816]; with_reducible exact H2_) | (have H2_ := (Option.bind_some _ _).symm.trans H; with_reducible exact H2_) | with_reducible exact H | (rw [hy816]; exact H) | exact H
 have Ny816 := am hy816
 clear hy816
 obtain ⟨y819, hy819⟩ : ∃ y_ : List Int, y_ = (([3, 1] : List Int)) := ⟨_, rfl⟩
 replace H : ((some (([y789, y792, y795, y798, y801, y804, y807, y810, y813, y816, y819] : List (List Int)) : List (List Int))).bind fun y822 => ((spec_l1Cur_one.f s0_0 s0_1 s0_2 10).bind fun bt825 => (if bt825.1 = true then ((spec_l1Cur_pick.f s0_0 bt825.2.1 bt825.2.2 13).bind fun bt828 => ((spec_l1Cur_pick.f s0_0 bt828.2.1 bt828.2.2 13).bind fun bt831 => (some (wrap64 (bt828.1 - 1), wrap64 (bt831.1 - 1), bt831.2.1, bt831.2.2)))) else ((spec_l1Cur_pick.f s0_0 bt825.2.1 bt825.2.2 (y822.length : Int)).bind fun bt834 => (if 0 ≤ bt834.1 then (if bt834.1 < (y822.length : Int) then (if 0 < ((rd_L1 y822 bt834.1).length : Int) then (if 1 < ((rd_L1 y822 bt834.1).length : Int) then (some (rd (rd_L1 y822 bt834.1) 0, rd (rd_L1 y822 bt834.1) 1, bt834.2.1, bt834.2.2)) else (none)) else (none)) else (none)) else (none)))))) = some (r1, r2, r3, r4) := by first | (rw [hy819]; with_reducible exact H) | (have H2_ := (Option.bind_some _ _).symm.trans H; rw [hy819]; with_reducible exact H2_) | (have H2_ := (Option.bind_some _ _).symm.trans H; with_reducible exact H2_) | with_reducible exact H | (rw [hy819]; exact H) | exact H
 have Ny819 := am hy819
 clear hy819
 obtain ⟨y822, hy822⟩ : ∃ y_ : List (List Int), y_ = (([y789, y792, y795, y798, y801, y804, y807, y810, y813, y816, y819] : List (List Int))) := ⟨_, rfl⟩
 replace H : ((spec_l1Cur_one.f s0_0 s0_1 s0_2 10).bind fun bt825 => (if bt825.1 = true then ((spec_l1Cur_pick.f s0_0 bt825.2.1 bt825.2.2 13).bind fun bt828 => ((spec_l1Cur_pick.f s0_0 bt828.2.1 bt828.2.2 13).bind fun bt831 => (some (wrap64 (bt828.1 - 1), wrap64 (bt831.1 - 1), bt831.2.1, bt831.2.2)))) else ((spec_l1Cur_pick.f s0_0 bt825.2.1 bt825.2.2 (y822.length : Int)).bind fun bt834 => (if 0 ≤ bt834.1 then (if bt834.1 < (y822.length : Int) then (if 0 < ((rd_L1 y822 bt834.1).length : Int) then (if 1 < ((rd_L1 y822 bt834.1).length : Int) then (some (rd (rd_L1 y822 bt834.1) 0, rd (rd_L1 y822 bt834.1) 1, bt834.2.1, bt834.2.2)) else (none)) else (none)) else (none)) else (none))))) = some (r1, r2, r3, r4) := by first | (rw [hy822]; with_reducible exact H) | (have H2_ := (Option.bind_some _ _).symm.trans H; rw [hy822]; with_reducible exact H2_) | (have H2_ := (Option.bind_some _ _).symm.trans H; with_reducible exact H2_) | with_reducible exact H | (rw [hy822]; exact H) | exact H
 have Ny822 := am hy822
 clear hy822
 replace H := Option.bind_eq_some_iff.mp H
 obtain ⟨⟨t825, t826, t827⟩, A20, H⟩ := H
 (try dsimp only at H)
 have A2 := am A20
 clear A20
 by_cases c3 : t825 = true
 ·subst c3
  rw [if_pos rfl] at H
  replace H := Option.bind_eq_some_iff.mp H
  obtain ⟨⟨t828, t829, t830⟩, A40, H⟩ := H
  (try dsimp only at H)
  have A4 := am A40
  clear A40
  replace H := Option.bind_eq_some_iff.mp H
  obtain ⟨⟨t831, t832, t833⟩, A50, H⟩ := H
  (try dsimp only at H)
  have A5 := am A50
  clear A50
  simp only [Option.some.injEq, Prod.mk.injEq] at H
  obtain ⟨rfl, rfl, rfl, rfl⟩ := H
  go_enter Try.func140, Try.ntmps140
  go_wp2_with (first | ((with_reducible refine gate_dst (N := 6) rfl ?_); refine Kd.R_lit (Kd.int .i64) _ 3 ?hg (N := 6) ?hd (xs := ([1, 1] : List Int)) (inner := [.int .i64 1, .int .i64 1]) (ok := fun _ => True) (okp := fun _ => True) ?hr ?hp (fun _ hk => hk) trivial (Below.refl _ _) (Nat.le_refl _) (by simp) ?_; (case hd => rfl); (case hg => rfl); (case hr => first | (go_simp; done) | (go_simp; rfl)); (case hp => exact (Reps.one (show Kd.M (Kd.int .i64) _ _ _ 1 [.int .i64 1] from rfl) (Reps.one (show Kd.M (Kd.int .i64) _ _ _ 1 [.int .i64 1] from rfl) (Reps.none _ _)))); intro v790 w6 ho7 hb hg_ hnew_; clear hg_ hnew_; (first | rw [← Ny789.out] at ho7 | (simp only [Int.reduceToNat] at ho7; rw [← Ny789.out] at ho7)); have HO791 := am (Kd.R_lower ho7 (keep_size (w := w) (g := g) (row := none) qK)); have n1_ := am (IsS67.below qI67 hb); have n2_ := am (KeepBut.trans qK (KeepBut.of_below hb g none) (.inl rfl)); replace HB := am (below_step qB hb); clear HI0 HK; have HI0 := n1_; have HK := n2_; clear n1_ n2_; clear hb ho7) | ((with_reducible refine gate_dst (N := 7) rfl ?_); refine Kd.R_lit (Kd.int .i64) _ 3 ?hg (N := 7) ?hd (xs := ([1, 4] : List Int)) (inner := [.int .i64 1, .int .i64 4]) (ok := fun _ => True) (okp := fun _ => True) ?hr ?hp (fun _ hk => hk) trivial (Below.refl _ _) (Nat.le_refl _) (by simp) ?_; (case hd => rfl); (case hg => rfl); (case hr => first | (go_simp; done) | (go_simp; rfl)); (case hp => exact (Reps.one (show Kd.M (Kd.int .i64) _ _ _ 1 [.int .i64 1] from rfl) (Reps.one (show Kd.M (Kd.int .i64) _ _ _ 4 [.int .i64 4] from rfl) (Reps.none _ _)))); intro v793 w8 ho9 hb hg_ hnew_; clear hg_ hnew_; (first | rw [← Ny792.out] at ho9 | (simp only [Int.reduceToNat] at ho9; rw [← Ny792.out] at ho9)); have n0_ := am (Kd.R_elder' (qR HO791.out) (Kd.R_base ho9) hb); have HO794 := am (Kd.R_lower (Kd.R_new' ho9 (Kd.R_lt (qR HO791.out))) (keep_size (w := w) (g := g) (row := none) qK)); have n2_ := am (IsS67.below qI67 hb); have n3_ := am (KeepBut.trans qK (KeepBut.of_below hb g none) (.inl rfl)); replace HB := am (below_step qB hb); clear HO791 HI0 HK; have HO791 := n0_; have HI0 := n2_; have HK := n3_; clear n0_ n2_ n3_; clear hb ho9) | ((with_reducible refine gate_dst (N := 8) rfl ?_); refine Kd.R_lit (Kd.int .i64) _ 3 ?hg (N := 8) ?hd (xs := ([2, 2] : List Int)) (inner := [.int .i64 2, .int .i64 2]) (ok := fun _ => True) (okp := fun _ => True) ?hr ?hp (fun _ hk => hk) trivial (Below.refl _ _) (Nat.le_refl _) (by simp) ?_; (case hd => rfl); (case hg => rfl); (case hr => first | (go_simp; done) | (go_simp; rfl)); (case hp => exact (Reps.one (show Kd.M (Kd.int .i64) _ _ _ 2 [.int .i64 2] from rfl) (Reps.one (show Kd.M (Kd.int .i64) _ _ _ 2 [.int .i64 2] from rfl) (Reps.none _ _)))); intro v796 w10 ho11 hb hg_ hnew_; clear hg_ hnew_; (first | rw [← Ny795.out] at ho11 | (simp only [Int.reduceToNat] at ho11; rw [← Ny795.out] at ho11)); have n0_ := am (Kd.R_elder' (qR HO791.out) (Kd.R_base ho11) hb); have n1_ := am (Kd.R_elder' (qR HO794.out) (Kd.R_base ho11) hb); have HO797 := am (Kd.R_lower (Kd.R_new' (Kd.R_new' ho11 (Kd.R_lt (qR HO791.out))) (Kd.R_lt (qR HO794.out))) (keep_size (w := w) (g := g) (row := none) qK)); have n3_ := am (IsS67.below qI67 hb); have n4_ := am (KeepBut.trans qK (KeepBut.of_below hb g none) (.inl rfl)); replace HB := am (below_step qB hb); clear HO791 HO794 HI0 HK; have HO791 := n0_; have HO794 := n1_; have HI0 := n3_; have HK := n4_; clear n0_ n1_ n3_ n4_; clear hb ho11) | ((with_reducible refine gate_dst (N := 9) rfl ?_); refine Kd.R_lit (Kd.int .i64) _ 3 ?hg (N := 9) ?hd (xs := ([2, 3] : List Int)) (inner := [.int .i64 2, .int .i64 3]) (ok := fun _ => True) (okp := fun _ => True) ?hr ?hp (fun _ hk => hk) trivial (Below.refl _ _) (Nat.le_refl _) (by simp) ?_; (case hd => rfl); (case hg => rfl); (case hr => first | (go_simp; done) | (go_simp; rfl)); (case hp => exact (Reps.one (show Kd.M (Kd.int .i64) _ _ _ 2 [.int .i64 2] from rfl) (Reps.one (show Kd.M (Kd.int .i64) _ _ _ 3 [.int .i64 3] from rfl) (Reps.none _ _)))); intro v799 w12 ho13 hb hg_ hnew_; clear hg_ hnew_; (first | rw [← Ny798.out] at ho13 | (simp only [Int.reduceToNat] at ho13; rw [← Ny798.out] at ho13)); have n0_ := am (Kd.R_elder' (qR HO791.out) (Kd.R_base ho13) hb); have n1_ := am (Kd.R_elder' (qR HO794.out) (Kd.R_base ho13) hb); have n2_ := am (Kd.R_elder' (qR HO797.out) (Kd.R_base ho13) hb); have HO800 := am (Kd.R_lower (Kd.R_new' (Kd.R_new' (Kd.R_new' ho13 (Kd.R_lt (qR HO791.out))) (Kd.R_lt (qR HO794.out))) (Kd.R_lt (qR HO797.out))) (keep_size (w := w) (g := g) (row := none) qK)); have n4_ := am (IsS67.below qI67 hb); have n5_ := am (KeepBut.trans qK (KeepBut.of_below hb g none) (.inl rfl)); replace HB := am (below_step qB hb); clear HO791 HO794 HO797 HI0 HK; have HO791 := n0_; have HO794 := n1_; have HO797 := n2_; have HI0 := n4_; have HK := n5_; clear n0_ n1_ n2_ n4_ n5_; clear hb ho13) | ((with_reducible refine gate_dst (N := 10) rfl ?_); refine Kd.R_lit (Kd.int .i64) _ 3 ?hg (N := 10) ?hd (xs := ([3, 2] : List Int)) (inner := [.int .i64 3, .int .i64 2]) (ok := fun _ => True) (okp := fun _ => True) ?hr ?hp (fun _ hk => hk) trivial (Below.refl _ _) (Nat.le_refl _) (by simp) ?_; (case hd => rfl); (case hg => rfl); (case hr => first | (go_simp; done) | (go_simp; rfl)); (case hp => exact (Reps.one (show Kd.M (Kd.int .i64) _ _ _ 3 [.int .i64 3] from rfl) (Reps.one (show Kd.M (Kd.int .i64) _ _ _ 2 [.int .i64 2] from rfl) (Reps.none _ _)))); intro v802 w14 ho15 hb hg_ hnew_; clear hg_ hnew_; (first | rw [← Ny801.out] at ho15 | (simp only [Int.reduceToNat] at ho15; rw [← Ny801.out] at ho15)); have n0_ := am (Kd.R_elder' (qR HO791.out) (Kd.R_base ho15) hb); have n1_ := am (Kd.R_elder' (qR HO794.out) (Kd.R_base ho15) hb); have n2_ := am (Kd.R_elder' (qR HO797.out) (Kd.R_base ho15) hb); have n3_ := am (Kd.R_elder' (qR HO800.out) (Kd.R_base ho15) hb); have HO803 := am (Kd.R_lower (Kd.R_new' (Kd.R_new' (Kd.R_new' (Kd.R_new' ho15 (Kd.R_lt (qR HO791.out))) (Kd.R_lt (qR HO794.out))) (Kd.R_lt (qR HO797.out))) (Kd.R_lt (qR HO800.out))) (keep_size (w := w) (g := g) (row := none) qK)); have n5_ := am (IsS67.below qI67 hb); have n6_ := am (KeepBut.trans qK (KeepBut.of_below hb g none) (.inl rfl)); replace HB := am (below_step qB hb); clear HO791 HO794 HO797 HO800 HI0 HK; have HO791 := n0_; have HO794 := n1_; have HO797 := n2_; have HO800 := n3_; have HI0 := n5_; have HK := n6_; clear n0_ n1_ n2_ n3_ n5_ n6_; clear hb ho15) | ((with_reducible refine gate_dst (N := 11) rfl ?_); refine Kd.R_lit (Kd.int .i64) _ 3 ?hg (N := 11) ?hd (xs := ([2, 4] : List Int)) (inner := [.int .i64 2, .int .i64 4]) (ok := fun _ => True) (okp := fun _ => True) ?hr ?hp (fun _ hk => hk) trivial (Below.refl _ _) (Nat.le_refl _) (by simp) ?_; (case hd => rfl); (case hg => rfl); (case hr => first | (go_simp; done) | (go_simp; rfl)); (case hp => exact (Reps.one (show Kd.M (Kd.int .i64) _ _ _ 2 [.int .i64 2] from rfl) (Reps.one (show Kd.M (Kd.int .i64) _ _ _ 4 [.int .i64 4] from rfl) (Reps.none _ _)))); intro v805 w16 ho17 hb hg_ hnew_; clear hg_ hnew_; (first | rw [← Ny804.out] at ho17 | (simp only [Int.reduceToNat] at ho17; rw [← Ny804.out] at ho17)); have n0_ := am (Kd.R_elder' (qR HO791.out) (Kd.R_base ho17) hb); have n1_ := am (Kd.R_elder' (qR HO794.out) (Kd.R_base ho17) hb); have n2_ := am (Kd.R_elder' (qR HO797.out) (Kd.R_base ho17) hb); have n3_ := am (Kd.R_elder' (qR HO800.out) (Kd.R_base ho17) hb); have n4_ := am (Kd.R_elder' (qR HO803.out) (Kd.R_base ho17) hb); have HO806 := am (Kd.R_lower (Kd.R_new' (Kd.R_new' (Kd.R_new' (Kd.R_new' (Kd.R_new' ho17 (Kd.R_lt (qR HO791.out))) (Kd.R_lt (qR HO794.out))) (Kd.R_lt (qR HO797.out))) (Kd.R_lt (qR HO800.out))) (Kd.R_lt (qR HO803.out))) (keep_size (w := w) (g := g) (row := none) qK)); have n6_ := am (IsS67.below qI67 hb); have n7_ := am (KeepBut.trans qK (KeepBut.of_below hb g none) (.inl rfl)); replace HB := am (below_step qB hb); clear HO791 HO794 HO797 HO800 HO803 HI0 HK; have HO791 := n0_; have HO794 := n1_; have HO797 := n2_; have HO800 := n3_; have HO803 := n4_; have HI0 := n6_; have HK := n7_; clear n0_ n1_ n2_ n3_ n4_ n6_ n7_; clear hb ho17) | ((with_reducible refine gate_dst (N := 12) rfl ?_); refine Kd.R_lit (Kd.int .i64) _ 3 ?hg (N := 12) ?hd (xs := ([4, 2] : List Int)) (inner := [.int .i64 4, .int .i64 2]) (ok := fun _ => True) (okp := fun _ => True) ?hr ?hp (fun _ hk => hk) trivial (Below.refl _ _) (Nat.le_refl _) (by simp) ?_; (case hd => rfl); (case hg => rfl); (case hr => first | (go_simp; done) | (go_simp; rfl)); (case hp => exact (Reps.one (show Kd.M (Kd.int .i64) _ _ _ 4 [.int .i64 4] from rfl) (Reps.one (show Kd.M (Kd.int .i64) _ _ _ 2 [.int .i64 2] from rfl) (Reps.none _ _)))); intro v808 w18 ho19 hb hg_ hnew_; clear hg_ hnew_; (first | rw [← Ny807.out] at ho19 | (simp only [Int.reduceToNat] at ho19; rw [← Ny807.out] at ho19)); have n0_ := am (Kd.R_elder' (qR HO791.out) (Kd.R_base ho19) hb); have n1_ := am (Kd.R_elder' (qR HO794.out) (Kd.R_base ho19) hb); have n2_ := am (Kd.R_elder' (qR HO797.out) (Kd.R_base ho19) hb); have n3_ := am (Kd.R_elder' (qR HO800.out) (Kd.R_base ho19) hb); have n4_ := am (Kd.R_elder' (qR HO803.out) (Kd.R_base ho19) hb); have n5_ := am (Kd.R_elder' (qR HO806.out) (Kd.R_base ho19) hb); have HO809 := am (Kd.R_lower (Kd.R_new' (Kd.R_new' (Kd.R_new' (Kd.R_new' (Kd.R_new' (Kd.R_new' ho19 (Kd.R_lt (qR HO791.out))) (Kd.R_lt (qR HO794.out))) (Kd.R_lt (qR HO797.out))) (Kd.R_lt (qR HO800.out))) (Kd.R_lt (qR HO803.out))) (Kd.R_lt (qR HO806.out))) (keep_size (w := w) (g := g) (row := none) qK)); have n7_ := am (IsS67.below qI67 hb); have n8_ := am (KeepBut.trans qK (KeepBut.of_below hb g none) (.inl rfl)); replace HB := am (below_step qB hb); clear HO791 HO794 HO797 HO800 HO803 HO806 HI0 HK; have HO791 := n0_; have HO794 := n1_; have HO797 := n2_; have HO800 := n3_; have HO803 := n4_; have HO806 := n5_; have HI0 := n7_; have HK := n8_; clear n0_ n1_ n2_ n3_ n4_ n5_ n7_ n8_; clear hb ho19) | ((with_reducible refine gate_dst (N := 13) rfl ?_); refine Kd.R_lit (Kd.int .i64) _ 3 ?hg (N := 13) ?hd (xs := ([3, 3] : List Int)) (inner := [.int .i64 3, .int .i64 3]) (ok := fun _ => True) (okp := fun _ => True) ?hr ?hp (fun _ hk => hk) trivial (Below.refl _ _) (Nat.le_refl _) (by simp) ?_; (case hd => rfl); (case hg => rfl); (case hr => first | (go_simp; done) | (go_simp; rfl)); (case hp => exact (Reps.one (show Kd.M (Kd.int .i64) _ _ _ 3 [.int .i64 3] from rfl) (Reps.one (show Kd.M (Kd.int .i64) _ _ _ 3 [.int .i64 3] from rfl) (Reps.none _ _)))); intro v811 w20 ho21 hb hg_ hnew_; clear hg_ hnew_; (first | rw [← Ny810.out] at ho21 | (simp only [Int.reduceToNat] at ho21; rw [← Ny810.out] at ho21)); have n0_ := am (Kd.R_elder' (qR HO791.out) (Kd.R_base ho21) hb); have n1_ := am (Kd.R_elder' (qR HO794.out) (Kd.R_base ho21) hb); have n2_ := am (Kd.R_elder' (qR HO797.out) (Kd.R_base ho21) hb); have n3_ := am (Kd.R_elder' (qR HO800.out) (Kd.R_base ho21) hb); have n4_ := am (Kd.R_elder' (qR HO803.out) (Kd.R_base ho21) hb); have n5_ := am (Kd.R_elder' (qR HO806.out) (Kd.R_base ho21) hb); have n6_ := am (Kd.R_elder' (qR HO809.out) (Kd.R_base ho21) hb); have HO812 := am (Kd.R_lower (Kd.R_new' (Kd.R_new' (Kd.R_new' (Kd.R_new' (Kd.R_new' (Kd.R_new' (Kd.R_new' ho21 (Kd.R_lt (qR HO791.out))) (Kd.R_lt (qR HO794.out))) (Kd.R_lt (qR HO797.out))) (Kd.R_lt (qR HO800.out))) (Kd.R_lt (qR HO803.out))) (Kd.R_lt (qR HO806.out))) (Kd.R_lt (qR HO809.out))) (keep_size (w := w) (g := g) (row := none) qK)); have n8_ := am (IsS67.below qI67 hb); have n9_ := am (KeepBut.trans qK (KeepBut.of_below hb g none) (.inl rfl)); replace HB := am (below_step qB hb); clear HO791 HO794 HO797 HO800 HO803 HO806 HO809 HI0 HK; have HO791 := n0_; have HO794 := n1_; have HO797 := n2_; have HO800 := n3_; have HO803 := n4_; have HO806 := n5_; have HO809 := n6_; have HI0 := n8_; have HK := n9_; clear n0_ n1_ n2_ n3_ n4_ n5_ n6_ n8_ n9_; clear hb ho21) | ((with_reducible refine gate_dst (N := 14) rfl ?_); refine Kd.R_lit (Kd.int .i64) _ 3 ?hg (N := 14) ?hd (xs := ([2, 5] : List Int)) (inner := [.int .i64 2, .int .i64 5]) (ok := fun _ => True) (okp := fun _ => True) ?hr ?hp (fun _ hk => hk) trivial (Below.refl _ _) (Nat.le_refl _) (by simp) ?_; (case hd => rfl); (case hg => rfl); (case hr => first | (go_simp; done) | (go_simp; rfl)); (case hp => exact (Reps.one (show Kd.M (Kd.int .i64) _ _ _ 2 [.int .i64 2] from rfl) (Reps.one (show Kd.M (Kd.int .i64) _ _ _ 5 [.int .i64 5] from rfl) (Reps.none _ _)))); intro v814 w22 ho23 hb hg_ hnew_; clear hg_ hnew_; (first | rw [← Ny813.out] at ho23 | (simp only [Int.reduceToNat] at ho23; rw [← Ny813.out] at ho23)); have n0_ := am (Kd.R_elder' (qR HO791.out) (Kd.R_base ho23) hb); have n1_ := am (Kd.R_elder' (qR HO794.out) (Kd.R_base ho23) hb); have n2_ := am (Kd.R_elder' (qR HO797.out) (Kd.R_base ho23) hb); have n3_ := am (Kd.R_elder' (qR HO800.out) (Kd.R_base ho23) hb); have n4_ := am (Kd.R_elder' (qR HO803.out) (Kd.R_base ho23) hb); have n5_ := am (Kd.R_elder' (qR HO806.out) (Kd.R_base ho23) hb); have n6_ := am (Kd.R_elder' (qR HO809.out) (Kd.R_base ho23) hb); have n7_ := am (Kd.R_elder' (qR HO812.out) (Kd.R_base ho23) hb); have HO815 := am (Kd.R_lower (Kd.R_new' (Kd.R_new' (Kd.R_new' (Kd.R_new' (Kd.R_new' (Kd.R_new' (Kd.R_new' (Kd.R_new' ho23 (Kd.R_lt (qR HO791.out))) (Kd.R_lt (qR HO794.out))) (Kd.R_lt (qR HO797.out))) (Kd.R_lt (qR HO800.out))) (Kd.R_lt (qR HO803.out))) (Kd.R_lt (qR HO806.out))) (Kd.R_lt (qR HO809.out))) (Kd.R_lt (qR HO812.out))) (keep_size (w := w) (g := g) (row := none) qK)); have n9_ := am (IsS67.below qI67 hb); have n10_ := am (KeepBut.trans qK (KeepBut.of_below hb g none) (.inl rfl)); replace HB := am (below_step qB hb); clear HO791 HO794 HO797 HO800 HO803 HO806 HO809 HO812 HI0 HK; have HO791 := n0_; have HO794 := n1_; have HO797 := n2_; have HO800 := n3_; have HO803 := n4_; have HO806 := n5_; have HO809 := n6_; have HO812 := n7_; have HI0 := n9_; have HK := n10_; clear n0_ n1_ n2_ n3_ n4_ n5_ n6_ n7_ n9_ n10_; clear hb ho23) | ((with_reducible refine gate_dst (N := 15) rfl ?_); refine Kd.R_lit (Kd.int .i64) _ 3 ?hg (N := 15) ?hd (xs := ([5, 2] : List Int)) (inner := [.int .i64 5, .int .i64 2]) (ok := fun _ => True) (okp := fun _ => True) ?hr ?hp (fun _ hk => hk) trivial (Below.refl _ _) (Nat.le_refl _) (by simp) ?_; (case hd => rfl); (case hg => rfl); (case hr => first | (go_simp; done) | (go_simp; rfl)); (case hp => exact (Reps.one (show Kd.M (Kd.int .i64) _ _ _ 5 [.int .i64 5] from rfl) (Reps.one (show Kd.M (Kd.int .i64) _ _ _ 2 [.int .i64 2] from rfl) (Reps.none _ _)))); intro v817 w24 ho25 hb hg_ hnew_; clear hg_ hnew_; (first | rw [← Ny816.out] at ho25 | (simp only [Int.reduceToNat] at ho25; rw [← Ny816.out] at ho25)); have n0_ := am (Kd.R_elder' (qR HO791.out) (Kd.R_base ho25) hb); have n1_ := am (Kd.R_elder' (qR HO794.out) (Kd.R_base ho25) hb); have n2_ := am (Kd.R_elder' (qR HO797.out) (Kd.R_base ho25) hb); have n3_ := am (Kd.R_elder' (qR HO800.out) (Kd.R_base ho25) hb); have n4_ := am (Kd.R_elder' (qR HO803.out) (Kd.R_base ho25) hb); have n5_ := am (Kd.R_elder' (qR HO806.out) (Kd.R_base ho25) hb); have n6_ := am (Kd.R_elder' (qR HO809.out) (Kd.R_base ho25) hb); have n7_ := am (Kd.R_elder' (qR HO812.out) (Kd.R_base ho25) hb); have n8_ := am (Kd.R_elder' (qR HO815.out) (Kd.R_base ho25) hb); have HO818 := am (Kd.R_lower (Kd.R_new' (Kd.R_new' (Kd.R_new' (Kd.R_new' (Kd.R_new' (Kd.R_new' (Kd.R_new' (Kd.R_new' (Kd.R_new' ho25 (Kd.R_lt (qR HO791.out))) (Kd.R_lt (qR HO794.out))) (Kd.R_lt (qR HO797.out))) (Kd.R_lt (qR HO800.out))) (Kd.R_lt (qR HO803.out))) (Kd.R_lt (qR HO806.out))) (Kd.R_lt (qR HO809.out))) (Kd.R_lt (qR HO812.out))) (Kd.R_lt (qR HO815.out))) (keep_size (w := w) (g := g) (row := none) qK)); have n10_ := am (IsS67.below qI67 hb); have n11_ := am (KeepBut.trans qK (KeepBut.of_below hb g none) (.inl rfl)); replace HB := am (below_step qB hb); clear HO791 HO794 HO797 HO800 HO803 HO806 HO809 HO812 HO815 HI0 HK; have HO791 := n0_; have HO794 := n1_; have HO797 := n2_; have HO800 := n3_; have HO803 := n4_; have HO806 := n5_; have HO809 := n6_; have HO812 := n7_; have HO815 := n8_; have HI0 := n10_; have HK := n11_; clear n0_ n1_ n2_ n3_ n4_ n5_ n6_ n7_ n8_ n10_ n11_; clear hb ho25) | ((with_reducible refine gate_dst (N := 16) rfl ?_); refine Kd.R_lit (Kd.int .i64) _ 3 ?hg (N := 16) ?hd (xs := ([3, 1] : List Int)) (inner := [.int .i64 3, .int .i64 1]) (ok := fun _ => True) (okp := fun _ => True) ?hr ?hp (fun _ hk => hk) trivial (Below.refl _ _) (Nat.le_refl _) (by simp) ?_; (case hd => rfl); (case hg => rfl); (case hr => first | (go_simp; done) | (go_simp; rfl)); (case hp => exact (Reps.one (show Kd.M (Kd.int .i64) _ _ _ 3 [.int .i64 3] from rfl) (Reps.one (show Kd.M (Kd.int .i64) _ _ _ 1 [.int .i64 1] from rfl) (Reps.none _ _)))); intro v820 w26 ho27 hb hg_ hnew_; clear hg_ hnew_; (first | rw [← Ny819.out] at ho27 | (simp only [Int.reduceToNat] at ho27; rw [← Ny819.out] at ho27)); have n0_ := am (Kd.R_elder' (qR HO791.out) (Kd.R_base ho27) hb); have n1_ := am (Kd.R_elder' (qR HO794.out) (Kd.R_base ho27) hb); have n2_ := am (Kd.R_elder' (qR HO797.out) (Kd.R_base ho27) hb); have n3_ := am (Kd.R_elder' (qR HO800.out) (Kd.R_base ho27) hb); have n4_ := am (Kd.R_elder' (qR HO803.out) (Kd.R_base ho27) hb); have n5_ := am (Kd.R_elder' (qR HO806.out) (Kd.R_base ho27) hb); have n6_ := am (Kd.R_elder' (qR HO809.out) (Kd.R_base ho27) hb); have n7_ := am (Kd.R_elder' (qR HO812.out) (Kd.R_base ho27) hb); have n8_ := am (Kd.R_elder' (qR HO815.out) (Kd.R_base ho27) hb); have n9_ := am (Kd.R_elder' (qR HO818.out) (Kd.R_base ho27) hb); have HO821 := am (Kd.R_lower (Kd.R_new' (Kd.R_new' (Kd.R_new' (Kd.R_new' (Kd.R_new' (Kd.R_new' (Kd.R_new' (Kd.R_new' (Kd.R_new' (Kd.R_new' ho27 (Kd.R_lt (qR HO791.out))) (Kd.R_lt (qR HO794.out))) (Kd.R_lt (qR HO797.out))) (Kd.R_lt (qR HO800.out))) (Kd.R_lt (qR HO803.out))) (Kd.R_lt (qR HO806.out))) (Kd.R_lt (qR HO809.out))) (Kd.R_lt (qR HO812.out))) (Kd.R_lt (qR HO815.out))) (Kd.R_lt (qR HO818.out))) (keep_size (w := w) (g := g) (row := none) qK)); have n11_ := am (IsS67.below qI67 hb); have n12_ := am (KeepBut.trans qK (KeepBut.of_below hb g none) (.inl rfl)); replace HB := am (below_step qB hb); clear HO791 HO794 HO797 HO800 HO803 HO806 HO809 HO812 HO815 HO818 HI0 HK; have HO791 := n0_; have HO794 := n1_; have HO797 := n2_; have HO800 := n3_; have HO803 := n4_; have HO806 := n5_; have HO809 := n6_; have HO812 := n7_; have HO815 := n8_; have HO818 := n9_; have HI0 := n11_; have HK := n12_; clear n0_ n1_ n2_ n3_ n4_ n5_ n6_ n7_ n8_ n9_ n11_ n12_; clear hb ho27; obtain ⟨Ao28, co28, eo28⟩ := Kd.R_slice HO791.out; subst eo28; obtain ⟨Ao29, co29, eo29⟩ := Kd.R_slice HO794.out; subst eo29; obtain ⟨Ao30, co30, eo30⟩ := Kd.R_slice HO797.out; subst eo30; obtain ⟨Ao31, co31, eo31⟩ := Kd.R_slice HO800.out; subst eo31; obtain ⟨Ao32, co32, eo32⟩ := Kd.R_slice HO803.out; subst eo32; obtain ⟨Ao33, co33, eo33⟩ := Kd.R_slice HO806.out; subst eo33; obtain ⟨Ao34, co34, eo34⟩ := Kd.R_slice HO809.out; subst eo34; obtain ⟨Ao35, co35, eo35⟩ := Kd.R_slice HO812.out; subst eo35; obtain ⟨Ao36, co36, eo36⟩ := Kd.R_slice HO815.out; subst eo36; obtain ⟨Ao37, co37, eo37⟩ := Kd.R_slice HO818.out; subst eo37; obtain ⟨Ao38, co38, eo38⟩ := Kd.R_slice HO821.out; subst eo38) | ((with_reducible refine gate_dst (N := 17) rfl ?_); refine Kd.N_lit (Kd.slice 3 (Kd.int .i64)) _ 24 ?hg (N' := 17) ?hd (xs := ([y789, y792, y795, y798, y801, y804, y807, y810, y813, y816, y819] : List (List Int))) (inner := [.slice Ao28 y789.length co28, .slice Ao29 y792.length co29, .slice Ao30 y795.length co30, .slice Ao31 y798.length co31, .slice Ao32 y801.length co32, .slice Ao33 y804.length co33, .slice Ao34 y807.length co34, .slice Ao35 y810.length co35, .slice Ao36 y813.length co36, .slice Ao37 y816.length co37, .slice Ao38 y819.length co38]) (ok := (fun k_ => k_ ≠ g)) (okp := (fun k_ => k_ ≠ g)) ?hr ?hp (fun _ hk => hk) ((show ∀ k_, w26.heap.size ≤ k_ → (fun k_ => k_ ≠ g) k_ from fun k_ hk => IsS67.fresh qI67 k_ hk) _ (Nat.le_refl _)) (Below.refl _ _) (Nat.le_refl _) (by simp) ?_; (case hd => rfl); (case hg => rfl); (case hr => first | (go_simp; done) | (go_simp; rfl)); (case hp => exact (Reps.one (show Kd.FK (Kd.slice 3 (Kd.int .i64)) _ _ y789 [.slice Ao28 y789.length co28] from (Kd.FK_slice_mk (Kd.R_reads' (Kd.R_mono (ok' := (fun k_ => k_ ≠ g)) (IsS67.apart HI0.out (HO791.out) (by decide)) (fun k_ hk => hk.2))).2.1 (Kd.R_F (Kd.R_mono (ok' := (fun k_ => k_ ≠ g)) (IsS67.apart HI0.out (HO791.out) (by decide)) (fun k_ hk => hk.2))))) (Reps.one (show Kd.FK (Kd.slice 3 (Kd.int .i64)) _ _ y792 [.slice Ao29 y792.length co29] from (Kd.FK_slice_mk (Kd.R_reads' (Kd.R_mono (ok' := (fun k_ => k_ ≠ g)) (IsS67.apart HI0.out (HO794.out) (by decide)) (fun k_ hk => hk.2))).2.1 (Kd.R_F (Kd.R_mono (ok' := (fun k_ => k_ ≠ g)) (IsS67.apart HI0.out (HO794.out) (by decide)) (fun k_ hk => hk.2))))) (Reps.one (show Kd.FK (Kd.slice 3 (Kd.int .i64)) _ _ y795 [.slice Ao30 y795.length co30] from (Kd.FK_slice_mk (Kd.R_reads' (Kd.R_mono (ok' := (fun k_ => k_ ≠ g)) (IsS67.apart HI0.out (HO797.out) (by decide)) (fun k_ hk => hk.2))).2.1 (Kd.R_F (Kd.R_mono (ok' := (fun k_ => k_ ≠ g)) (IsS67.apart HI0.out (HO797.out) (by decide)) (fun k_ hk => hk.2))))) (Reps.one (show Kd.FK (Kd.slice 3 (Kd.int .i64)) _ _ y798 [.slice Ao31 y798.length co31] from (Kd.FK_slice_mk (Kd.R_reads' (Kd.R_mono (ok' := (fun k_ => k_ ≠ g)) (IsS67.apart HI0.out (HO800.out) (by decide)) (fun k_ hk => hk.2))).2.1 (Kd.R_F (Kd.R_mono (ok' := (fun k_ => k_ ≠ g)) (IsS67.apart HI0.out (HO800.out) (by decide)) (fun k_ hk => hk.2))))) (Reps.one (show Kd.FK (Kd.slice 3 (Kd.int .i64)) _ _ y801 [.slice Ao32 y801.length co32] from (Kd.FK_slice_mk (Kd.R_reads' (Kd.R_mono (ok' := (fun k_ => k_ ≠ g)) (IsS67.apart HI0.out (HO803.out) (by decide)) (fun k_ hk => hk.2))).2.1 (Kd.R_F (Kd.R_mono (ok' := (fun k_ => k_ ≠ g)) (IsS67.apart HI0.out (HO803.out) (by decide)) (fun k_ hk => hk.2))))) (Reps.one (show Kd.FK (Kd.slice 3 (Kd.int .i64)) _ _ y804 [.slice Ao33 y804.length co33] from (Kd.FK_slice_mk (Kd.R_reads' (Kd.R_mono (ok' := (fun k_ => k_ ≠ g)) (IsS67.apart HI0.out (HO806.out) (by decide)) (fun k_ hk => hk.2))).2.1 (Kd.R_F (Kd.R_mono (ok' := (fun k_ => k_ ≠ g)) (IsS67.apart HI0.out (HO806.out) (by decide)) (fun k_ hk => hk.2))))) (Reps.one (show Kd.FK (Kd.slice 3 (Kd.int .i64)) _ _ y807 [.slice Ao34 y807.length co34] from (Kd.FK_slice_mk (Kd.R_reads' (Kd.R_mono (ok' := (fun k_ => k_ ≠ g)) (IsS67.apart HI0.out (HO809.out) (by decide)) (fun k_ hk => hk.2))).2.1 (Kd.R_F (Kd.R_mono (ok' := (fun k_ => k_ ≠ g)) (IsS67.apart HI0.out (HO809.out) (by decide)) (fun k_ hk => hk.2))))) (Reps.one (show Kd.FK (Kd.slice 3 (Kd.int .i64)) _ _ y810 [.slice Ao35 y810.length co35] from (Kd.FK_slice_mk (Kd.R_reads' (Kd.R_mono (ok' := (fun k_ => k_ ≠ g)) (IsS67.apart HI0.out (HO812.out) (by decide)) (fun k_ hk => hk.2))).2.1 (Kd.R_F (Kd.R_mono (ok' := (fun k_ => k_ ≠ g)) (IsS67.apart HI0.out (HO812.out) (by decide)) (fun k_ hk => hk.2))))) (Reps.one (show Kd.FK (Kd.slice 3 (Kd.int .i64)) _ _ y813 [.slice Ao36 y813.length co36] from (Kd.FK_slice_mk (Kd.R_reads' (Kd.R_mono (ok' := (fun k_ => k_ ≠ g)) (IsS67.apart HI0.out (HO815.out) (by decide)) (fun k_ hk => hk.2))).2.1 (Kd.R_F (Kd.R_mono (ok' := (fun k_ => k_ ≠ g)) (IsS67.apart HI0.out (HO815.out) (by decide)) (fun k_ hk => hk.2))))) (Reps.one (show Kd.FK (Kd.slice 3 (Kd.int .i64)) _ _ y816 [.slice Ao37 y816.length co37] from (Kd.FK_slice_mk (Kd.R_reads' (Kd.R_mono (ok' := (fun k_ => k_ ≠ g)) (IsS67.apart HI0.out (HO818.out) (by decide)) (fun k_ hk => hk.2))).2.1 (Kd.R_F (Kd.R_mono (ok' := (fun k_ => k_ ≠ g)) (IsS67.apart HI0.out (HO818.out) (by decide)) (fun k_ hk => hk.2))))) (Reps.one (show Kd.FK (Kd.slice 3 (Kd.int .i64)) _ _ y819 [.slice Ao38 y819.length co38] from (Kd.FK_slice_mk (Kd.R_reads' (Kd.R_mono (ok' := (fun k_ => k_ ≠ g)) (IsS67.apart HI0.out (HO821.out) (by decide)) (fun k_ hk => hk.2))).2.1 (Kd.R_F (Kd.R_mono (ok' := (fun k_ => k_ ≠ g)) (IsS67.apart HI0.out (HO821.out) (by decide)) (fun k_ hk => hk.2))))) (Reps.none _ _))))))))))))); intro v823 w39 ho40 hb hg_ hnew_; clear hg_ hnew_; (first | rw [← Ny822.out] at ho40 | (simp only [Int.reduceToNat] at ho40; rw [← Ny822.out] at ho40)); have HO824 := am (Kd.N_lower ho40 (keep_size (w := w) (g := g) (row := none) qK)); have n1_ := am (IsS67.below qI67 hb); have n2_ := am (KeepBut.trans qK (KeepBut.of_below hb g none) (.inl rfl)); replace HB := am (below_step qB hb); clear HI0 HK HO791 HO794 HO797 HO800 HO803 HO806 HO809 HO812 HO815 HO818 HO821; have HI0 := n1_; have HK := n2_; clear n1_ n2_; clear hb ho40) | (go_at_call 66; (with_reducible refine (spec_l1Cur_one.calls g s0_0 s0_1 s0_2 10 true t826 t827 w0 _ ?side1 ?side2 A2.out).mono ?_); (case side1 => with_reducible repeat (first | exact HI0.out | apply IsS67.alloc | apply IsS67.drewN | apply IsS67.drew)); (case side2 => exact qB); rintro e w41 ⟨rfl, hi, hb, hk⟩; replace HO824 := am (Kd.N_mono (Kd.N_keep (Kd.N_mono (ok := fun k_ => k_ ≠ g) (by (with_reducible repeat (first | apply Kd.N_alloc | apply Kd.N_drewN | apply Kd.N_drew)); exact HO824.out) (fun k_ hk_ => (⟨hk_, hk_⟩ : _ ∧ k_ ≠ g))) hk (fun _ h => h.2)) (fun _ h => h.1)); have n1_ := am (KeepBut.trans qK hk (.inl rfl)); have n2_ := am (hb); replace HI0 := am (hi); clear HK HB; have HK := n1_; have HB := n2_; clear n1_ n2_; (try clear hb); (try clear hb2); (try clear hk); (try clear hi)) | (go_at_call 68; (with_reducible refine (spec_l1Cur_pick.calls g s0_0 t826 t827 13 t828 t829 t830 w0 _ ?side1 ?side2 A4.out).mono ?_); (case side1 => with_reducible repeat (first | exact HI0.out | apply IsS67.alloc | apply IsS67.drewN | apply IsS67.drew)); (case side2 => exact qB); rintro e w42 ⟨rfl, hi, hb, hk⟩; replace HO824 := am (Kd.N_mono (Kd.N_keep (Kd.N_mono (ok := fun k_ => k_ ≠ g) (by (with_reducible repeat (first | apply Kd.N_alloc | apply Kd.N_drewN | apply Kd.N_drew)); exact HO824.out) (fun k_ hk_ => (⟨hk_, hk_⟩ : _ ∧ k_ ≠ g))) hk (fun _ h => h.2)) (fun _ h => h.1)); have n1_ := am (KeepBut.trans qK hk (.inl rfl)); have n2_ := am (hb); replace HI0 := am (hi); clear HK HB; have HK := n1_; have HB := n2_; clear n1_ n2_; (try clear hb); (try clear hb2); (try clear hk); (try clear hi)) | (go_at_call 68; (with_reducible refine (spec_l1Cur_pick.calls g s0_0 t829 t830 13 t831 t832 t833 w0 _ ?side1 ?side2 A5.out).mono ?_); (case side1 => with_reducible repeat (first | exact HI0.out | apply IsS67.alloc | apply IsS67.drewN | apply IsS67.drew)); (case side2 => exact qB); rintro e w43 ⟨rfl, hi, hb, hk⟩; replace HO824 := am (Kd.N_mono (Kd.N_keep (Kd.N_mono (ok := fun k_ => k_ ≠ g) (by (with_reducible repeat (first | apply Kd.N_alloc | apply Kd.N_drewN | apply Kd.N_drew)); exact HO824.out) (fun k_ hk_ => (⟨hk_, hk_⟩ : _ ∧ k_ ≠ g))) hk (fun _ h => h.2)) (fun _ h => h.1)); have n1_ := am (KeepBut.trans qK hk (.inl rfl)); have n2_ := am (hb); replace HI0 := am (hi); clear HK HB; have HK := n1_; have HB := n2_; clear n1_ n2_; (try clear hb); (try clear hb2); (try clear hk); (try clear hi)))
  skip
  go_ret2
  exact ⟨qr, qI67, qB, qK⟩
 ·replace c3 := Bool.eq_false_iff.mpr c3
  subst c3
  rw [if_neg (show ¬ (false = true) by decide)] at H
  replace H := Option.bind_eq_some_iff.mp H
  obtain ⟨⟨t834, t835, t836⟩, A440, H⟩ := H
  (try dsimp only at H)
  have A44 := am A440
  clear A440
  by_cases c45 : 0 ≤ t834
  ·rw [if_pos c45] at H
   have c45b0 := decide_eq_true c45
   clear c45
   by_cases c46 : t834 < (y822.length : Int)
   rotate_left
   ·rw [if_neg c46] at H
    exact absurd H (by simp)
   rw [if_pos c46] at H
   have c46b0 := decide_eq_true c46
   clear c46
   by_cases c47 : 0 < ((rd_L1 y822 t834).length : Int)
   rotate_left
   ·rw [if_neg c47] at H
    exact absurd H (by simp)
   rw [if_pos c47] at H
   have c47b0 := decide_eq_true c47
   have c47b1 : decide (0 < (rd_L1 y822 t834).length) = true := decide_eq_true (by omega)
   clear c47
   by_cases c48 : 1 < ((rd_L1 y822 t834).length : Int)
   rotate_left
   ·rw [if_neg c48] at H
    exact absurd H (by simp)
   rw [if_pos c48] at H
   have c48b0 := decide_eq_true c48
   have c48b1 : decide (1 < (rd_L1 y822 t834).length) = true := decide_eq_true (by omega)
   clear c48
   simp only [Option.some.injEq, Prod.mk.injEq] at H
   obtain ⟨rfl, rfl, rfl, rfl⟩ := H
   go_enter Try.func140, Try.ntmps140
   go_wp2_with (first | ((with_reducible refine gate_dst (N := 6) rfl ?_); refine Kd.R_lit (Kd.int .i64) _ 3 ?hg (N := 6) ?hd (xs := ([1, 1] : List Int)) (inner := [.int .i64 1, .int .i64 1]) (ok := fun _ => True) (okp := fun _ => True) ?hr ?hp (fun _ hk => hk) trivial (Below.refl _ _) (Nat.le_refl _) (by simp) ?_; (case hd => rfl); (case hg => rfl); (case hr => first | (go_simp; done) | (go_simp; rfl)); (case hp => exact (Reps.one (show Kd.M (Kd.int .i64) _ _ _ 1 [.int .i64 1] from rfl) (Reps.one (show Kd.M (Kd.int .i64) _ _ _ 1 [.int .i64 1] from rfl) (Reps.none _ _)))); intro v790 w49 ho50 hb hg_ hnew_; clear hg_ hnew_; (first | rw [← Ny789.out] at ho50 | (simp only [Int.reduceToNat] at ho50; rw [← Ny789.out] at ho50)); have HO791 := am (Kd.R_lower ho50 (keep_size (w := w) (g := g) (row := none) qK)); have n1_ := am (IsS67.below qI67 hb); have n2_ := am (KeepBut.trans qK (KeepBut.of_below hb g none) (.inl rfl)); replace HB := am (below_step qB hb); clear HI0 HK; have HI0 := n1_; have HK := n2_; clear n1_ n2_; clear hb ho50) | ((with_reducible refine gate_dst (N := 7) rfl ?_); refine Kd.R_lit (Kd.int .i64) _ 3 ?hg (N := 7) ?hd (xs := ([1, 4] : List Int)) (inner := [.int .i64 1, .int .i64 4]) (ok := fun _ => True) (okp := fun _ => True) ?hr ?hp (fun _ hk => hk) trivial (Below.refl _ _) (Nat.le_refl _) (by simp) ?_; (case hd => rfl); (case hg => rfl); (case hr => first | (go_simp; done) | (go_simp; rfl)); (case hp => exact (Reps.one (show Kd.M (Kd.int .i64) _ _ _ 1 [.int .i64 1] from rfl) (Reps.one (show Kd.M (Kd.int .i64) _ _ _ 4 [.int .i64 4] from rfl) (Reps.none _ _)))); intro v793 w51 ho52 hb hg_ hnew_; clear hg_ hnew_; (first | rw [← Ny792.out] at ho52 | (simp only [Int.reduceToNat] at ho52; rw [← Ny792.out] at ho52)); have n0_ := am (Kd.R_elder' (qR HO791.out) (Kd.R_base ho52) hb); have HO794 := am (Kd.R_lower (Kd.R_new' ho52 (Kd.R_lt (qR HO791.out))) (keep_size (w := w) (g := g) (row := none) qK)); have n2_ := am (IsS67.below qI67 hb); have n3_ := am (KeepBut.trans qK (KeepBut.of_below hb g none) (.inl rfl)); replace HB := am (below_step qB hb); clear HO791 HI0 HK; have HO791 := n0_; have HI0 := n2_; have HK := n3_; clear n0_ n2_ n3_; clear hb ho52) | ((with_reducible refine gate_dst (N := 8) rfl ?_); refine Kd.R_lit (Kd.int .i64) _ 3 ?hg (N := 8) ?hd (xs := ([2, 2] : List Int)) (inner := [.int .i64 2, .int .i64 2]) (ok := fun _ => True) (okp := fun _ => True) ?hr ?hp (fun _ hk => hk) trivial (Below.refl _ _) (Nat.le_refl _) (by simp) ?_; (case hd => rfl); (case hg => rfl); (case hr => first | (go_simp; done) | (go_simp; rfl)); (case hp => exact (Reps.one (show Kd.M (Kd.int .i64) _ _ _ 2 [.int .i64 2] from rfl) (Reps.one (show Kd.M (Kd.int .i64) _ _ _ 2 [.int .i64 2] from rfl) (Reps.none _ _)))); intro v796 w53 ho54 hb hg_ hnew_; clear hg_ hnew_; (first | rw [← Ny795.out] at ho54 | (simp only [Int.reduceToNat] at ho54; rw [← Ny795.out] at ho54)); have n0_ := am (Kd.R_elder' (qR HO791.out) (Kd.R_base ho54) hb); have n1_ := am (Kd.R_elder' (qR HO794.out) (Kd.R_base ho54) hb); have HO797 := am (Kd.R_lower (Kd.R_new' (Kd.R_new' ho54 (Kd.R_lt (qR HO791.out))) (Kd.R_lt (qR HO794.out))) (keep_size (w := w) (g := g) (row := none) qK)); have n3_ := am (IsS67.below qI67 hb); have n4_ := am (KeepBut.trans qK (KeepBut.of_below hb g none) (.inl rfl)); replace HB := am (below_step qB hb); clear HO791 HO794 HI0 HK; have HO791 := n0_; have HO794 := n1_; have HI0 := n3_; have HK := n4_; clear n0_ n1_ n3_ n4_; clear hb ho54) | ((with_reducible refine gate_dst (N := 9) rfl ?_); refine Kd.R_lit (Kd.int .i64) _ 3 ?hg (N := 9) ?hd (xs := ([2, 3] : List Int)) (inner := [.int .i64 2, .int .i64 3]) (ok := fun _ => True) (okp := fun _ => True) ?hr ?hp (fun _ hk => hk) trivial (Below.refl _ _) (Nat.le_refl _) (by simp) ?_; (case hd => rfl); (case hg => rfl); (case hr => first | (go_simp; done) | (go_simp; rfl)); (case hp => exact (Reps.one (show Kd.M (Kd.int .i64) _ _ _ 2 [.int .i64 2] from rfl) (Reps.one (show Kd.M (Kd.int .i64) _ _ _ 3 [.int .i64 3] from rfl) (Reps.none _ _)))); intro v799 w55 ho56 hb hg_ hnew_; clear hg_ hnew_; (first | rw [← Ny798.out] at ho56 | (simp only [Int.reduceToNat] at ho56; rw [← Ny798.out] at ho56)); have n0_ := am (Kd.R_elder' (qR HO791.out) (Kd.R_base ho56) hb); have n1_ := am (Kd.R_elder' (qR HO794.out) (Kd.R_base ho56) hb); have n2_ := am (Kd.R_elder' (qR HO797.out) (Kd.R_base ho56) hb); have HO800 := am (Kd.R_lower (Kd.R_new' (Kd.R_new' (Kd.R_new' ho56 (Kd.R_lt (qR HO791.out))) (Kd.R_lt (qR HO794.out))) (Kd.R_lt (qR HO797.out))) (keep_size (w := w) (g := g) (row := none) qK)); have n4_ := am (IsS67.below qI67 hb); have n5_ := am (KeepBut.trans qK (KeepBut.of_below hb g none) (.inl rfl)); replace HB := am (below_step qB hb); clear HO791 HO794 HO797 HI0 HK; have HO791 := n0_; have HO794 := n1_; have HO797 := n2_; have HI0 := n4_; have HK := n5_; clear n0_ n1_ n2_ n4_ n5_; clear hb ho56) | ((with_reducible refine gate_dst (N := 10) rfl ?_); refine Kd.R_lit (Kd.int .i64) _ 3 ?hg (N := 10) ?hd (xs := ([3, 2] : List Int)) (inner := [.int .i64 3, .int .i64 2]) (ok := fun _ => True) (okp := fun _ => True) ?hr ?hp (fun _ hk => hk) trivial (Below.refl _ _) (Nat.le_refl _) (by simp) ?_; (case hd => rfl); (case hg => rfl); (case hr => first | (go_simp; done) | (go_simp; rfl)); (case hp => exact (Reps.one (show Kd.M (Kd.int .i64) _ _ _ 3 [.int .i64 3] from rfl) (Reps.one (show Kd.M (Kd.int .i64) _ _ _ 2 [.int .i64 2] from rfl) (Reps.none _ _)))); intro v802 w57 ho58 hb hg_ hnew_; clear hg_ hnew_; (first | rw [← Ny801.out] at ho58 | (simp only [Int.reduceToNat] at ho58; rw [← Ny801.out] at ho58)); have n0_ := am (Kd.R_elder' (qR HO791.out) (Kd.R_base ho58) hb); have n1_ := am (Kd.R_elder' (qR HO794.out) (Kd.R_base ho58) hb); have n2_ := am (Kd.R_elder' (qR HO797.out) (Kd.R_base ho58) hb); have n3_ := am (Kd.R_elder' (qR HO800.out) (Kd.R_base ho58) hb); have HO803 := am (Kd.R_lower (Kd.R_new' (Kd.R_new' (Kd.R_new' (Kd.R_new' ho58 (Kd.R_lt (qR HO791.out))) (Kd.R_lt (qR HO794.out))) (Kd.R_lt (qR HO797.out))) (Kd.R_lt (qR HO800.out))) (keep_size (w := w) (g := g) (row := none) qK)); have n5_ := am (IsS67.below qI67 hb); have n6_ := am (KeepBut.trans qK (KeepBut.of_below hb g none) (.inl rfl)); replace HB := am (below_step qB hb); clear HO791 HO794 HO797 HO800 HI0 HK; have HO791 := n0_; have HO794 := n1_; have HO797 := n2_; have HO800 := n3_; have HI0 := n5_; have HK := n6_; clear n0_ n1_ n2_ n3_ n5_ n6_; clear hb ho58) | ((with_reducible refine gate_dst (N := 11) rfl ?_); refine Kd.R_lit (Kd.int .i64) _ 3 ?hg (N := 11) ?hd (xs := ([2, 4] : List Int)) (inner := [.int .i64 2, .int .i64 4]) (ok := fun _ => True) (okp := fun _ => True) ?hr ?hp (fun _ hk => hk) trivial (Below.refl _ _) (Nat.le_refl _) (by simp) ?_; (case hd => rfl); (case hg => rfl); (case hr => first | (go_simp; done) | (go_simp; rfl)); (case hp => exact (Reps.one (show Kd.M (Kd.int .i64) _ _ _ 2 [.int .i64 2] from rfl) (Reps.one (show Kd.M (Kd.int .i64) _ _ _ 4 [.int .i64 4] from rfl) (Reps.none _ _)))); intro v805 w59 ho60 hb hg_ hnew_; clear hg_ hnew_; (first | rw [← Ny804.out] at ho60 | (simp only [Int.reduceToNat] at ho60; rw [← Ny804.out] at ho60)); have n0_ := am (Kd.R_elder' (qR HO791.out) (Kd.R_base ho60) hb); have n1_ := am (Kd.R_elder' (qR HO794.out) (Kd.R_base ho60) hb); have n2_ := am (Kd.R_elder' (qR HO797.out) (Kd.R_base ho60) hb); have n3_ := am (Kd.R_elder' (qR HO800.out) (Kd.R_base ho60) hb); have n4_ := am (Kd.R_elder' (qR HO803.out) (Kd.R_base ho60) hb); have HO806 := am (Kd.R_lower (Kd.R_new' (Kd.R_new' (Kd.R_new' (Kd.R_new' (Kd.R_new' ho60 (Kd.R_lt (qR HO791.out))) (Kd.R_lt (qR HO794.out))) (Kd.R_lt (qR HO797.out))) (Kd.R_lt (qR HO800.out))) (Kd.R_lt (qR HO803.out))) (keep_size (w := w) (g := g) (row := none) qK)); have n6_ := am (IsS67.below qI67 hb); have n7_ := am (KeepBut.trans qK (KeepBut.of_below hb g none) (.inl rfl)); replace HB := am (below_step qB hb); clear HO791 HO794 HO797 HO800 HO803 HI0 HK; have HO791 := n0_; have HO794 := n1_; have HO797 := n2_; have HO800 := n3_; have HO803 := n4_; have HI0 := n6_; have HK := n7_; clear n0_ n1_ n2_ n3_ n4_ n6_ n7_; clear hb ho60) | ((with_reducible refine gate_dst (N := 12) rfl ?_); refine Kd.R_lit (Kd.int .i64) _ 3 ?hg (N := 12) ?hd (xs := ([4, 2] : List Int)) (inner := [.int .i64 4, .int .i64 2]) (ok := fun _ => True) (okp := fun _ => True) ?hr ?hp (fun _ hk => hk) trivial (Below.refl _ _) (Nat.le_refl _) (by simp) ?_; (case hd => rfl); (case hg => rfl); (case hr => first | (go_simp; done) | (go_simp; rfl)); (case hp => exact (Reps.one (show Kd.M (Kd.int .i64) _ _ _ 4 [.int .i64 4] from rfl) (Reps.one (show Kd.M (Kd.int .i64) _ _ _ 2 [.int .i64 2] from rfl) (Reps.none _ _)))); intro v808 w61 ho62 hb hg_ hnew_; clear hg_ hnew_; (first | rw [← Ny807.out] at ho62 | (simp only [Int.reduceToNat] at ho62; rw [← Ny807.out] at ho62)); have n0_ := am (Kd.R_elder' (qR HO791.out) (Kd.R_base ho62) hb); have n1_ := am (Kd.R_elder' (qR HO794.out) (Kd.R_base ho62) hb); have n2_ := am (Kd.R_elder' (qR HO797.out) (Kd.R_base ho62) hb); have n3_ := am (Kd.R_elder' (qR HO800.out) (Kd.R_base ho62) hb); have n4_ := am (Kd.R_elder' (qR HO803.out) (Kd.R_base ho62) hb); have n5_ := am (Kd.R_elder' (qR HO806.out) (Kd.R_base ho62) hb); have HO809 := am (Kd.R_lower (Kd.R_new' (Kd.R_new' (Kd.R_new' (Kd.R_new' (Kd.R_new' (Kd.R_new' ho62 (Kd.R_lt (qR HO791.out))) (Kd.R_lt (qR HO794.out))) (Kd.R_lt (qR HO797.out))) (Kd.R_lt (qR HO800.out))) (Kd.R_lt (qR HO803.out))) (Kd.R_lt (qR HO806.out))) (keep_size (w := w) (g := g) (row := none) qK)); have n7_ := am (IsS67.below qI67 hb); have n8_ := am (KeepBut.trans qK (KeepBut.of_below hb g none) (.inl rfl)); replace HB := am (below_step qB hb); clear HO791 HO794 HO797 HO800 HO803 HO806 HI0 HK; have HO791 := n0_; have HO794 := n1_; have HO797 := n2_; have HO800 := n3_; have HO803 := n4_; have HO806 := n5_; have HI0 := n7_; have HK := n8_; clear n0_ n1_ n2_ n3_ n4_ n5_ n7_ n8_; clear hb ho62) | ((with_reducible refine gate_dst (N := 13) rfl ?_); refine Kd.R_lit (Kd.int .i64) _ 3 ?hg (N := 13) ?hd (xs := ([3, 3] : List Int)) (inner := [.int .i64 3, .int .i64 3]) (ok := fun _ => True) (okp := fun _ => True) ?hr ?hp (fun _ hk => hk) trivial (Below.refl _ _) (Nat.le_refl _) (by simp) ?_; (case hd => rfl); (case hg => rfl); (case hr => first | (go_simp; done) | (go_simp; rfl)); (case hp => exact (Reps.one (show Kd.M (Kd.int .i64) _ _ _ 3 [.int .i64 3] from rfl) (Reps.one (show Kd.M (Kd.int .i64) _ _ _ 3 [.int .i64 3] from rfl) (Reps.none _ _)))); intro v811 w63 ho64 hb hg_ hnew_; clear hg_ hnew_; (first | rw [← Ny810.out] at ho64 | (simp only [Int.reduceToNat] at ho64; rw [← Ny810.out] at ho64)); have n0_ := am (Kd.R_elder' (qR HO791.out) (Kd.R_base ho64) hb); have n1_ := am (Kd.R_elder' (qR HO794.out) (Kd.R_base ho64) hb); have n2_ := am (Kd.R_elder' (qR HO797.out) (Kd.R_base ho64) hb); have n3_ := am (Kd.R_elder' (qR HO800.out) (Kd.R_base ho64) hb); have n4_ := am (Kd.R_elder' (qR HO803.out) (Kd.R_base ho64) hb); have n5_ := am (Kd.R_elder' (qR HO806.out) (Kd.R_base ho64) hb); have n6_ := am (Kd.R_elder' (qR HO809.out) (Kd.R_base ho64) hb); have HO812 := am (Kd.R_lower (Kd.R_new' (Kd.R_new' (Kd.R_new' (Kd.R_new' (Kd.R_new' (Kd.R_new' (Kd.R_new' ho64 (Kd.R_lt (qR HO791.out))) (Kd.R_lt (qR HO794.out))) (Kd.R_lt (qR HO797.out))) (Kd.R_lt (qR HO800.out))) (Kd.R_lt (qR HO803.out))) (Kd.R_lt (qR HO806.out))) (Kd.R_lt (qR HO809.out))) (keep_size (w := w) (g := g) (row := none) qK)); have n8_ := am (IsS67.below qI67 hb); have n9_ := am (KeepBut.trans qK (KeepBut.of_below hb g none) (.inl rfl)); replace HB := am (below_step qB hb); clear HO791 HO794 HO797 HO800 HO803 HO806 HO809 HI0 HK; have HO791 := n0_; have HO794 := n1_; have HO797 := n2_; have HO800 := n3_; have HO803 := n4_; have HO806 := n5_; have HO809 := n6_; have HI0 := n8_; have HK := n9_; clear n0_ n1_ n2_ n3_ n4_ n5_ n6_ n8_ n9_; clear hb ho64) | ((with_reducible refine gate_dst (N := 14) rfl ?_); refine Kd.R_lit (Kd.int .i64) _ 3 ?hg (N := 14) ?hd (xs := ([2, 5] : List Int)) (inner := [.int .i64 2, .int .i64 5]) (ok := fun _ => True) (okp := fun _ => True) ?hr ?hp (fun _ hk => hk) trivial (Below.refl _ _) (Nat.le_refl _) (by simp) ?_; (case hd => rfl); (case hg => rfl); (case hr => first | (go_simp; done) | (go_simp; rfl)); (case hp => exact (Reps.one (show Kd.M (Kd.int .i64) _ _ _ 2 [.int .i64 2] from rfl) (Reps.one (show Kd.M (Kd.int .i64) _ _ _ 5 [.int .i64 5] from rfl) (Reps.none _ _)))); intro v814 w65 ho66 hb hg_ hnew_; clear hg_ hnew_; (first | rw [← Ny813.out] at ho66 | (simp only [Int.reduceToNat] at ho66; rw [← Ny813.out] at ho66)); have n0_ := am (Kd.R_elder' (qR HO791.out) (Kd.R_base ho66) hb); have n1_ := am (Kd.R_elder' (qR HO794.out) (Kd.R_base ho66) hb); have n2_ := am (Kd.R_elder' (qR HO797.out) (Kd.R_base ho66) hb); have n3_ := am (Kd.R_elder' (qR HO800.out) (Kd.R_base ho66) hb); have n4_ := am (Kd.R_elder' (qR HO803.out) (Kd.R_base ho66) hb); have n5_ := am (Kd.R_elder' (qR HO806.out) (Kd.R_base ho66) hb); have n6_ := am (Kd.R_elder' (qR HO809.out) (Kd.R_base ho66) hb); have n7_ := am (Kd.R_elder' (qR HO812.out) (Kd.R_base ho66) hb); have HO815 := am (Kd.R_lower (Kd.R_new' (Kd.R_new' (Kd.R_new' (Kd.R_new' (Kd.R_new' (Kd.R_new' (Kd.R_new' (Kd.R_new' ho66 (Kd.R_lt (qR HO791.out))) (Kd.R_lt (qR HO794.out))) (Kd.R_lt (qR HO797.out))) (Kd.R_lt (qR HO800.out))) (Kd.R_lt (qR HO803.out))) (Kd.R_lt (qR HO806.out))) (Kd.R_lt (qR HO809.out))) (Kd.R_lt (qR HO812.out))) (keep_size (w := w) (g := g) (row := none) qK)); have n9_ := am (IsS67.below qI67 hb); have n10_ := am (KeepBut.trans qK (KeepBut.of_below hb g none) (.inl rfl)); replace HB := am (below_step qB hb); clear HO791 HO794 HO797 HO800 HO803 HO806 HO809 HO812 HI0 HK; have HO791 := n0_; have HO794 := n1_; have HO797 := n2_; have HO800 := n3_; have HO803 := n4_; have HO806 := n5_; have HO809 := n6_; have HO812 := n7_; have HI0 := n9_; have HK := n10_; clear n0_ n1_ n2_ n3_ n4_ n5_ n6_ n7_ n9_ n10_; clear hb ho66) | ((with_reducible refine gate_dst (N := 15) rfl ?_); refine Kd.R_lit (Kd.int .i64) _ 3 ?hg (N := 15) ?hd (xs := ([5, 2] : List Int)) (inner := [.int .i64 5, .int .i64 2]) (ok := fun _ => True) (okp := fun _ => True) ?hr ?hp (fun _ hk => hk) trivial (Below.refl _ _) (Nat.le_refl _) (by simp) ?_; (case hd => rfl); (case hg => rfl); (case hr => first | (go_simp; done) | (go_simp; rfl)); (case hp => exact (Reps.one (show Kd.M (Kd.int .i64) _ _ _ 5 [.int .i64 5] from rfl) (Reps.one (show Kd.M (Kd.int .i64) _ _ _ 2 [.int .i64 2] from rfl) (Reps.none _ _)))); intro v817 w67 ho68 hb hg_ hnew_; clear hg_ hnew_; (first | rw [← Ny816.out] at ho68 | (simp only [Int.reduceToNat] at ho68; rw [← Ny816.out] at ho68)); have n0_ := am (Kd.R_elder' (qR HO791.out) (Kd.R_base ho68) hb); have n1_ := am (Kd.R_elder' (qR HO794.out) (Kd.R_base ho68) hb); have n2_ := am (Kd.R_elder' (qR HO797.out) (Kd.R_base ho68) hb); have n3_ := am (Kd.R_elder' (qR HO800.out) (Kd.R_base ho68) hb); have n4_ := am (Kd.R_elder' (qR HO803.out) (Kd.R_base ho68) hb); have n5_ := am (Kd.R_elder' (qR HO806.out) (Kd.R_base ho68) hb); have n6_ := am (Kd.R_elder' (qR HO809.out) (Kd.R_base ho68) hb); have n7_ := am (Kd.R_elder' (qR HO812.out) (Kd.R_base ho68) hb); have n8_ := am (Kd.R_elder' (qR HO815.out) (Kd.R_base ho68) hb); have HO818 := am (Kd.R_lower (Kd.R_new' (Kd.R_new' (Kd.R_new' (Kd.R_new' (Kd.R_new' (Kd.R_new' (Kd.R_new' (Kd.R_new' (Kd.R_new' ho68 (Kd.R_lt (qR HO791.out))) (Kd.R_lt (qR HO794.out))) (Kd.R_lt (qR HO797.out))) (Kd.R_lt (qR HO800.out))) (Kd.R_lt (qR HO803.out))) (Kd.R_lt (qR HO806.out))) (Kd.R_lt (qR HO809.out))) (Kd.R_lt (qR HO812.out))) (Kd.R_lt (qR HO815.out))) (keep_size (w := w) (g := g) (row := none) qK)); have n10_ := am (IsS67.below qI67 hb); have n11_ := am (KeepBut.trans qK (KeepBut.of_below hb g none) (.inl rfl)); replace HB := am (below_step qB hb); clear HO791 HO794 HO797 HO800 HO803 HO806 HO809 HO812 HO815 HI0 HK; have HO791 := n0_; have HO794 := n1_; have HO797 := n2_; have HO800 := n3_; have HO803 := n4_; have HO806 := n5_; have HO809 := n6_; have HO812 := n7_; have HO815 := n8_; have HI0 := n10_; have HK := n11_; clear n0_ n1_ n2_ n3_ n4_ n5_ n6_ n7_ n8_ n10_ n11_; clear hb ho68) | ((with_reducible refine gate_dst (N := 16) rfl ?_); refine Kd.R_lit (Kd.int .i64) _ 3 ?hg (N := 16) ?hd (xs := ([3, 1] : List Int)) (inner := [.int .i64 3, .int .i64 1]) (ok := fun _ => True) (okp := fun _ => True) ?hr ?hp (fun _ hk => hk) trivial (Below.refl _ _) (Nat.le_refl _) (by simp) ?_; (case hd => rfl); (case hg => rfl); (case hr => first | (go_simp; done) | (go_simp; rfl)); (case hp => exact (Reps.one (show Kd.M (Kd.int .i64) _ _ _ 3 [.int .i64 3] from rfl) (Reps.one (show Kd.M (Kd.int .i64) _ _ _ 1 [.int .i64 1] from rfl) (Reps.none _ _)))); intro v820 w69 ho70 hb hg_ hnew_; clear hg_ hnew_; (first | rw [← Ny819.out] at ho70 | (simp only [Int.reduceToNat] at ho70; rw [← Ny819.out] at ho70)); have n0_ := am (Kd.R_elder' (qR HO791.out) (Kd.R_base ho70) hb); have n1_ := am (Kd.R_elder' (qR HO794.out) (Kd.R_base ho70) hb); have n2_ := am (Kd.R_elder' (qR HO797.out) (Kd.R_base ho70) hb); have n3_ := am (Kd.R_elder' (qR HO800.out) (Kd.R_base ho70) hb); have n4_ := am (Kd.R_elder' (qR HO803.out) (Kd.R_base ho70) hb); have n5_ := am (Kd.R_elder' (qR HO806.out) (Kd.R_base ho70) hb); have n6_ := am (Kd.R_elder' (qR HO809.out) (Kd.R_base ho70) hb); have n7_ := am (Kd.R_elder' (qR HO812.out) (Kd.R_base ho70) hb); have n8_ := am (Kd.R_elder' (qR HO815.out) (Kd.R_base ho70) hb); have n9_ := am (Kd.R_elder' (qR HO818.out) (Kd.R_base ho70) hb); have HO821 := am (Kd.R_lower (Kd.R_new' (Kd.R_new' (Kd.R_new' (Kd.R_new' (Kd.R_new' (Kd.R_new' (Kd.R_new' (Kd.R_new' (Kd.R_new' (Kd.R_new' ho70 (Kd.R_lt (qR HO791.out))) (Kd.R_lt (qR HO794.out))) (Kd.R_lt (qR HO797.out))) (Kd.R_lt (qR HO800.out))) (Kd.R_lt (qR HO803.out))) (Kd.R_lt (qR HO806.out))) (Kd.R_lt (qR HO809.out))) (Kd.R_lt (qR HO812.out))) (Kd.R_lt (qR HO815.out))) (Kd.R_lt (qR HO818.out))) (keep_size (w := w) (g := g) (row := none) qK)); have n11_ := am (IsS67.below qI67 hb); have n12_ := am (KeepBut.trans qK (KeepBut.of_below hb g none) (.inl rfl)); replace HB := am (below_step qB hb); clear HO791 HO794 HO797 HO800 HO803 HO806 HO809 HO812 HO815 HO818 HI0 HK; have HO791 := n0_; have HO794 := n1_; have HO797 := n2_; have HO800 := n3_; have HO803 := n4_; have HO806 := n5_; have HO809 := n6_; have HO812 := n7_; have HO815 := n8_; have HO818 := n9_; have HI0 := n11_; have HK := n12_; clear n0_ n1_ n2_ n3_ n4_ n5_ n6_ n7_ n8_ n9_ n11_ n12_; clear hb ho70; obtain ⟨Ao71, co71, eo71⟩ := Kd.R_slice HO791.out; subst eo71; obtain ⟨Ao72, co72, eo72⟩ := Kd.R_slice HO794.out; subst eo72; obtain ⟨Ao73, co73, eo73⟩ := Kd.R_slice HO797.out; subst eo73; obtain ⟨Ao74, co74, eo74⟩ := Kd.R_slice HO800.out; subst eo74; obtain ⟨Ao75, co75, eo75⟩ := Kd.R_slice HO803.out; subst eo75; obtain ⟨Ao76, co76, eo76⟩ := Kd.R_slice HO806.out; subst eo76; obtain ⟨Ao77, co77, eo77⟩ := Kd.R_slice HO809.out; subst eo77; obtain ⟨Ao78, co78, eo78⟩ := Kd.R_slice HO812.out; subst eo78; obtain ⟨Ao79, co79, eo79⟩ := Kd.R_slice HO815.out; subst eo79; obtain ⟨Ao80, co80, eo80⟩ := Kd.R_slice HO818.out; subst eo80; obtain ⟨Ao81, co81, eo81⟩ := Kd.R_slice HO821.out; subst eo81) | ((with_reducible refine gate_dst (N := 17) rfl ?_); refine Kd.N_lit (Kd.slice 3 (Kd.int .i64)) _ 24 ?hg (N' := 17) ?hd (xs := ([y789, y792, y795, y798, y801, y804, y807, y810, y813, y816, y819] : List (List Int))) (inner := [.slice Ao71 y789.length co71, .slice Ao72 y792.length co72, .slice Ao73 y795.length co73, .slice Ao74 y798.length co74, .slice Ao75 y801.length co75, .slice Ao76 y804.length co76, .slice Ao77 y807.length co77, .slice Ao78 y810.length co78, .slice Ao79 y813.length co79, .slice Ao80 y816.length co80, .slice Ao81 y819.length co81]) (ok := (fun k_ => k_ ≠ g)) (okp := (fun k_ => k_ ≠ g)) ?hr ?hp (fun _ hk => hk) ((show ∀ k_, w69.heap.size ≤ k_ → (fun k_ => k_ ≠ g) k_ from fun k_ hk => IsS67.fresh qI67 k_ hk) _ (Nat.le_refl _)) (Below.refl _ _) (Nat.le_refl _) (by simp) ?_; (case hd => rfl); (case hg => rfl); (case hr => first | (go_simp; done) | (go_simp; rfl)); (case hp => exact (Reps.one (show Kd.FK (Kd.slice 3 (Kd.int .i64)) _ _ y789 [.slice Ao71 y789.length co71] from (Kd.FK_slice_mk (Kd.R_reads' (Kd.R_mono (ok' := (fun k_ => k_ ≠ g)) (IsS67.apart HI0.out (HO791.out) (by decide)) (fun k_ hk => hk.2))).2.1 (Kd.R_F (Kd.R_mono (ok' := (fun k_ => k_ ≠ g)) (IsS67.apart HI0.out (HO791.out) (by decide)) (fun k_ hk => hk.2))))) (Reps.one (show Kd.FK (Kd.slice 3 (Kd.int .i64)) _ _ y792 [.slice Ao72 y792.length co72] from (Kd.FK_slice_mk (Kd.R_reads' (Kd.R_mono (ok' := (fun k_ => k_ ≠ g)) (IsS67.apart HI0.out (HO794.out) (by decide)) (fun k_ hk => hk.2))).2.1 (Kd.R_F (Kd.R_mono (ok' := (fun k_ => k_ ≠ g)) (IsS67.apart HI0.out (HO794.out) (by decide)) (fun k_ hk => hk.2))))) (Reps.one (show Kd.FK (Kd.slice 3 (Kd.int .i64)) _ _ y795 [.slice Ao73 y795.length co73] from (Kd.FK_slice_mk (Kd.R_reads' (Kd.R_mono (ok' := (fun k_ => k_ ≠ g)) (IsS67.apart HI0.out (HO797.out) (by decide)) (fun k_ hk => hk.2))).2.1 (Kd.R_F (Kd.R_mono (ok' := (fun k_ => k_ ≠ g)) (IsS67.apart HI0.out (HO797.out) (by decide)) (fun k_ hk => hk.2))))) (Reps.one (show Kd.FK (Kd.slice 3 (Kd.int .i64)) _ _ y798 [.slice Ao74 y798.length co74] from (Kd.FK_slice_mk (Kd.R_reads' (Kd.R_mono (ok' := (fun k_ => k_ ≠ g)) (IsS67.apart HI0.out (HO800.out) (by decide)) (fun k_ hk => hk.2))).2.1 (Kd.R_F (Kd.R_mono (ok' := (fun k_ => k_ ≠ g)) (IsS67.apart HI0.out (HO800.out) (by decide)) (fun k_ hk => hk.2))))) (Reps.one (show Kd.FK (Kd.slice 3 (Kd.int .i64)) _ _ y801 [.slice Ao75 y801.length co75] from (Kd.FK_slice_mk (Kd.R_reads' (Kd.R_mono (ok' := (fun k_ => k_ ≠ g)) (IsS67.apart HI0.out (HO803.out) (by decide)) (fun k_ hk => hk.2))).2.1 (Kd.R_F (Kd.R_mono (ok' := (fun k_ => k_ ≠ g)) (IsS67.apart HI0.out (HO803.out) (by decide)) (fun k_ hk => hk.2))))) (Reps.one (show Kd.FK (Kd.slice 3 (Kd.int .i64)) _ _ y804 [.slice Ao76 y804.length co76] from (Kd.FK_slice_mk (Kd.R_reads' (Kd.R_mono (ok' := (fun k_ => k_ ≠ g)) (IsS67.apart HI0.out (HO806.out) (by decide)) (fun k_ hk => hk.2))).2.1 (Kd.R_F (Kd.R_mono (ok' := (fun k_ => k_ ≠ g)) (IsS67.apart HI0.out (HO806.out) (by decide)) (fun k_ hk => hk.2))))) (Reps.one (show Kd.FK (Kd.slice 3 (Kd.int .i64)) _ _ y807 [.slice Ao77 y807.length co77] from (Kd.FK_slice_mk (Kd.R_reads' (Kd.R_mono (ok' := (fun k_ => k_ ≠ g)) (IsS67.apart HI0.out (HO809.out) (by decide)) (fun k_ hk => hk.2))).2.1 (Kd.R_F (Kd.R_mono (ok' := (fun k_ => k_ ≠ g)) (IsS67.apart HI0.out (HO809.out) (by decide)) (fun k_ hk => hk.2))))) (Reps.one (show Kd.FK (Kd.slice 3 (Kd.int .i64)) _ _ y810 [.slice Ao78 y810.length co78] from (Kd.FK_slice_mk (Kd.R_reads' (Kd.R_mono (ok' := (fun k_ => k_ ≠ g)) (IsS67.apart HI0.out (HO812.out) (by decide)) (fun k_ hk => hk.2))).2.1 (Kd.R_F (Kd.R_mono (ok' := (fun k_ => k_ ≠ g)) (IsS67.apart HI0.out (HO812.out) (by decide)) (fun k_ hk => hk.2))))) (Reps.one (show Kd.FK (Kd.slice 3 (Kd.int .i64)) _ _ y813 [.slice Ao79 y813.length co79] from (Kd.FK_slice_mk (Kd.R_reads' (Kd.R_mono (ok' := (fun k_ => k_ ≠ g)) (IsS67.apart HI0.out (HO815.out) (by decide)) (fun k_ hk => hk.2))).2.1 (Kd.R_F (Kd.R_mono (ok' := (fun k_ => k_ ≠ g)) (IsS67.apart HI0.out (HO815.out) (by decide)) (fun k_ hk => hk.2))))) (Reps.one (show Kd.FK (Kd.slice 3 (Kd.int .i64)) _ _ y816 [.slice Ao80 y816.length co80] from (Kd.FK_slice_mk (Kd.R_reads' (Kd.R_mono (ok' := (fun k_ => k_ ≠ g)) (IsS67.apart HI0.out (HO818.out) (by decide)) (fun k_ hk => hk.2))).2.1 (Kd.R_F (Kd.R_mono (ok' := (fun k_ => k_ ≠ g)) (IsS67.apart HI0.out (HO818.out) (by decide)) (fun k_ hk => hk.2))))) (Reps.one (show Kd.FK (Kd.slice 3 (Kd.int .i64)) _ _ y819 [.slice Ao81 y819.length co81] from (Kd.FK_slice_mk (Kd.R_reads' (Kd.R_mono (ok' := (fun k_ => k_ ≠ g)) (IsS67.apart HI0.out (HO821.out) (by decide)) (fun k_ hk => hk.2))).2.1 (Kd.R_F (Kd.R_mono (ok' := (fun k_ => k_ ≠ g)) (IsS67.apart HI0.out (HO821.out) (by decide)) (fun k_ hk => hk.2))))) (Reps.none _ _))))))))))))); intro v823 w82 ho83 hb hg_ hnew_; clear hg_ hnew_; (first | rw [← Ny822.out] at ho83 | (simp only [Int.reduceToNat] at ho83; rw [← Ny822.out] at ho83)); have HO824 := am (Kd.N_lower ho83 (keep_size (w := w) (g := g) (row := none) qK)); have n1_ := am (IsS67.below qI67 hb); have n2_ := am (KeepBut.trans qK (KeepBut.of_below hb g none) (.inl rfl)); replace HB := am (below_step qB hb); clear HI0 HK HO791 HO794 HO797 HO800 HO803 HO806 HO809 HO812 HO815 HO818 HO821; have HI0 := n1_; have HK := n2_; clear n1_ n2_; clear hb ho83) | (go_at_call 66; (with_reducible refine (spec_l1Cur_one.calls g s0_0 s0_1 s0_2 10 false t826 t827 w0 _ ?side1 ?side2 A2.out).mono ?_); (case side1 => with_reducible repeat (first | exact HI0.out | apply IsS67.alloc | apply IsS67.drewN | apply IsS67.drew)); (case side2 => exact qB); rintro e w84 ⟨rfl, hi, hb, hk⟩; replace HO824 := am (Kd.N_mono (Kd.N_keep (Kd.N_mono (ok := fun k_ => k_ ≠ g) (by (with_reducible repeat (first | apply Kd.N_alloc | apply Kd.N_drewN | apply Kd.N_drew)); exact HO824.out) (fun k_ hk_ => (⟨hk_, hk_⟩ : _ ∧ k_ ≠ g))) hk (fun _ h => h.2)) (fun _ h => h.1)); have n1_ := am (KeepBut.trans qK hk (.inl rfl)); have n2_ := am (hb); replace HI0 := am (hi); clear HK HB; have HK := n1_; have HB := n2_; clear n1_ n2_; (try clear hb); (try clear hb2); (try clear hk); (try clear hi); obtain ⟨Ao85, co85, eo85⟩ := Kd.N_slice HO824.out; subst eo85) | (go_at_call 68; (with_reducible refine (spec_l1Cur_pick.calls g s0_0 t826 t827 (y822.length : Int) t834 t835 t836 w0 _ ?side1 ?side2 A44.out).mono ?_); (case side1 => with_reducible repeat (first | exact HI0.out | apply IsS67.alloc | apply IsS67.drewN | apply IsS67.drew)); (case side2 => exact qB); rintro e w86 ⟨rfl, hi, hb, hk⟩; replace HO824 := am (Kd.N_mono (Kd.N_keep (Kd.N_mono (ok := fun k_ => k_ ≠ g) (by (with_reducible repeat (first | apply Kd.N_alloc | apply Kd.N_drewN | apply Kd.N_drew)); exact HO824.out) (fun k_ hk_ => (⟨hk_, hk_⟩ : _ ∧ k_ ≠ g))) hk (fun _ h => h.2)) (fun _ h => h.1)); have n1_ := am (KeepBut.trans qK hk (.inl rfl)); have n2_ := am (hb); replace HI0 := am (hi); clear HK HB; have HK := n1_; have HB := n2_; clear n1_ n2_; (try clear hb); (try clear hb2); (try clear hk); (try clear hi); have p837 : 0 ≤ (t834 : Int) := qd; have q837 : t834 < (y822.length : Int) := qd; obtain ⟨ad837, A837_0, c837_0, e837, hx837_0, hl837_0, hi837_0⟩ := at_L1 (Kd.N_reads' HO824.out).2.2 t834 p837 q837; cases e837; obtain ⟨ce837, hce837, hMe837, hcc837⟩ := Kd.N_get HO824.out [] t834 p837 (by first | exact q837 | exact qd | (have e_ := (Kd.N_reads' HO824.out).1; omega)); obtain ⟨ua837_0, uc837_0, rfl, ul837_0, ge837_0⟩ := Kd.FK_slice_open hMe837; have hv837_0 := hcc837 0 _ rfl; rw [Nat.add_zero, show ((Kd.slice 3 (Kd.int .i64))).sz = 1 from rfl, Nat.mul_one] at hv837_0; replace hv837_0 := Option.some.inj (hv837_0.symm.trans hx837_0); injection hv837_0 with hva_ hvn_ hvc_; rw [hva_] at ge837_0; rw [hvc_] at ul837_0; have HL837_0 := am (show Kd.V (Kd.int .i64) 3 _ w.heap.size _ _ (rd_L1 y822 t834) from Kd.V_mk ul837_0 ge837_0); clear hva_ hvn_ hvc_ ge837_0 ul837_0; clear hcc837 hce837; have HR837_0 := am hi837_0; have HC837_0 := am hl837_0; clear hi837_0 hl837_0; replace p837 := eq_true p837; replace q837 := eq_true q837; have p838 : 0 ≤ (0 : Int) := (by omega); have q838 : 0 < ((rd_L1 y822 t834).length : Int) := qd; obtain ⟨ad838, e838, hx838_0⟩ := Kd.at_int (by repeat (first | (with_reducible exact HR837_0.out) | (with_reducible refine Kd.C_alloc ?_ _) | (with_reducible refine Kd.C_drewN ?_ _) | (with_reducible refine Kd.C_drew ?_) | exact HR837_0.out)) 0 p838 q838; cases e838; have qi838 : (0 < (rd_L1 y822 t834).length) = True := eq_true (by omega); (try rw [show ((0 : Int)).toNat = 0 from rfl] at hx838_0); (try rw [Addr.add_zero'] at hx838_0); replace p838 := eq_true p838; replace q838 := eq_true q838; have p839 : 0 ≤ (1 : Int) := (by omega); have q839 : 1 < ((rd_L1 y822 t834).length : Int) := qd; obtain ⟨ad839, e839, hx839_0⟩ := Kd.at_int (by repeat (first | (with_reducible exact HR837_0.out) | (with_reducible refine Kd.C_alloc ?_ _) | (with_reducible refine Kd.C_drewN ?_ _) | (with_reducible refine Kd.C_drew ?_) | exact HR837_0.out)) 1 p839 q839; obtain rfl : ad838 = ad839 := (by injection e839); (try simp only [show (1 : Int).toNat = 1 from rfl, Nat.reduceMul, Nat.reduceEqDiff, Go.Addr.add, ↓reduceIte] at hx839_0); have qi839 : (1 < (rd_L1 y822 t834).length) = True := eq_true (by omega); (try rw [show ((1 : Int)).toNat = 1 from rfl] at hx839_0); replace p839 := eq_true p839; replace q839 := eq_true q839))
   repeat (go_quiet (fail); try go_wp2_with (fail))
   go_ret2
   exact ⟨qr, qI67, qB, qK⟩
  ·rw [if_neg c45] at H
   exact absurd H (by simp)
def spec_l1In.f (a0 : Int) (a1 : Int) (a2 : Int) : Option (Bool) := if a0 ≥ a1 then (some (decide (a0 ≤ a2))) else (some false)
set_option maxHeartbeats 8000000 in
set_option maxRecDepth 100000 in
theorem spec_l1In.calls (a0 : Int) (a1 : Int) (a2 : Int) (r : Bool) (w : World) (h : spec_l1In.f a0 a1 a2 = some r) :
 Calls Try.prog 75 #[.int .i64 a0, .int .i64 a1, .int .i64 a2] w fun e w' => e = .returned (.bool r) ∧ Drawn0 w w' := by
 have H := h
 unfold spec_l1In.f at H
 clear h
 by_cases c4 : a0 ≥ a1
 ·rw [if_pos c4] at H
  have c4b0 : decide (a1 ≤ a0) = true := decide_eq_true c4
  clear c4
  obtain rfl := Option.some.inj H
  go_enter Try.func75, Try.ntmps75
  go_wp2
  go_ret
  exact ⟨by first | rfl | (simp; done) | (simp [*]; done), by repeat (first | exact Drawn0.refl _ | apply Drawn0.step)⟩
 ·rw [if_neg c4] at H
  have c4b0 : decide (a1 ≤ a0) = false := decide_eq_false c4
  clear c4
  obtain rfl := Option.some.inj H
  go_enter Try.func75, Try.ntmps75
  go_wp2
  go_ret
  exact ⟨by first | rfl | (simp; done) | (simp [*]; done), by repeat (first | exact Drawn0.refl _ | apply Drawn0.step)⟩
def spec_l1All.l0 : Nat → Int → Int → List Int → Int → Int → Option (Bool)
 | 0, _, _, _, _, _ => none
 | k + 1, x1, x2, x9, x10, x11 => if x11 < x10 then (if 0 ≤ x11 then (if x11 < (x9.length : Int) then ((spec_l1In.f (rd x9 x11) x1 x2).bind fun t462 => (if t462 = true then (spec_l1All.l0 k x1 x2 x9 x10 (wrap64 (x11 + 1))) else (some false))) else (none)) else (none)) else (some true)
def spec_l1All.f (k : Nat) (l0 : List Int) (a1 : Int) (a2 : Int) : Option (Bool) := spec_l1All.l0 k a1 a2 l0 (l0.length : Int) 0
theorem spec_l1All.mono_l : ∀ k, (∀ y0 y1 y2 y3 y4, LeO (spec_l1All.l0 k y0 y1 y2 y3 y4) (spec_l1All.l0 (k + 1) y0 y1 y2 y3 y4))
 | 0 => fun _ _ _ _ _ r h => by simp [spec_l1All.l0] at h
 | k + 1 => by
  have ih0 := spec_l1All.mono_l k
  ·intro y0 y1 y2 y3 y4
   unfold spec_l1All.l0
   repeat' first
   | (with_reducible exact LeO.refl _)
   | (with_reducible exact LeO.none _)
   | (with_reducible refine LeO.ite ?_ ?_)
   | (with_reducible refine LeO.bind ?_ (fun _ => ?_))
   | exact ih0 _ _ _ _ _
   | exact LeO.none _
   | refine LeO.ite ?_ ?_
   | refine LeO.bind ?_ (fun _ => ?_)
theorem spec_l1All.mono : ∀ a0 a1 a2 k, LeO (spec_l1All.f k a0 a1 a2) (spec_l1All.f (k + 1) a0 a1 a2) := by
 intro a0 a1 a2 k
 have ih0 := spec_l1All.mono_l k
 unfold spec_l1All.f
 repeat' first
  | (with_reducible exact LeO.refl _)
  | (with_reducible exact LeO.none _)
  | (with_reducible refine LeO.ite ?_ ?_)
  | (with_reducible refine LeO.bind ?_ (fun _ => ?_))
  | exact ih0 _ _ _ _ _
  | exact LeO.none _
  | refine LeO.ite ?_ ?_
  | refine LeO.bind ?_ (fun _ => ?_)
set_option maxHeartbeats 8000000 in
set_option maxRecDepth 100000 in
theorem spec_l1All.calls (k : Nat) (A0 : Option Addr) (c0 : Nat) (l0 : List Int) (a1 : Int) (a2 : Int) (r : Bool) (w : World) (hr0 : Kd.C (Kd.int .i64) w A0 l0.length l0) (hc0 : l0.length ≤ c0) (h : spec_l1All.f k l0 a1 a2 = some r) :
 Calls Try.prog 131 #[.slice A0 l0.length c0, .int .i64 a1, .int .i64 a2] w fun e w' => e = .returned (.bool r) ∧ Drawn0 w w' := by
 have HR0 := am hr0
 have HC0 := am hc0
 clear hr0 hc0
 have H := h
 unfold spec_l1All.f at H
 clear h
 have H' := am H
 clear H
 go_enter Try.func131, Try.ntmps131
 go_wp2
 go_loopg [11] k (fun kq v11 w' => ∃ (x11_1 : Int), v11 = .int .i64 x11_1 ∧ Aside0 (spec_l1All.l0 kq a1 a2 l0 (l0.length : Int) x11_1 = some r) ∧ Aside0 (kq ≤ k) ∧ Drawn0 w w')
 case atStart => exact ⟨(0), qe, H', ⟨Nat.le_refl _⟩, by repeat (first | exact Drawn0.refl _ | apply Drawn0.step)⟩
 case round =>
  clear H'
  try clear c1
  try clear p2
  obtain ⟨x11_1, rfl, HA, HK1, ⟨m1, rfl⟩⟩ := hrel
  cases gk with
  | zero => exact absurd HA.out (by simp [spec_l1All.l0])
  | succ k1 =>
   have H := HA.out
   clear HA
   simp only [spec_l1All.l0] at H
   by_cases c4 : x11_1 < (l0.length : Int)
   ·rw [if_pos c4] at H
    have c4b0 := decide_eq_true c4
    clear c4
    by_cases c5 : 0 ≤ x11_1
    rotate_left
    ·rw [if_neg c5] at H
     exact absurd H (by simp)
    rw [if_pos c5] at H
    have c5b0 := decide_eq_true c5
    clear c5
    by_cases c6 : x11_1 < (l0.length : Int)
    rotate_left
    ·rw [if_neg c6] at H
     exact absurd H (by simp)
    rw [if_pos c6] at H
    have c6b0 := decide_eq_true c6
    clear c6
    replace H := Option.bind_eq_some_iff.mp H
    obtain ⟨t462, A70, H⟩ := H
    (try dsimp only at H)
    have A7 := am A70
    clear A70
    by_cases c8 : t462 = true
    ·subst c8
     rw [if_pos rfl] at H
     have H' := am H
     clear H
     have p461 : 0 ≤ (x11_1 : Int) := qd
     have q461 : x11_1 < (l0.length : Int) := qd
     obtain ⟨ad461, e461, hx461_0⟩ := Kd.at_int HR0.out x11_1 p461 q461
     cases e461
     replace p461 := eq_true p461
     replace q461 := eq_true q461
     go_wp2_with (((with_reducible refine gate_callee (f := 75) rfl ?_); refine gL (some 18) Try.func75 #[.int .i64 (rd l0 x11_1), .int .i64 a1, .int .i64 a2] ?_; (with_reducible refine (spec_l1In.calls (rd l0 x11_1) a1 a2 true _ A7.out).mono ?_); rintro e w' ⟨rfl, ⟨nd, rfl⟩⟩; refine ⟨_, rfl, ?_⟩))
     go_roundg k1
     case measure => have := HK1.out; omega
     case rel => exact ⟨(wrap64 (x11_1 + 1)), qe, H', ⟨by have := HK1.out; omega⟩, by repeat (first | exact Drawn0.refl _ | apply Drawn0.step)⟩
    ·replace c8 := Bool.eq_false_iff.mpr c8
     subst c8
     rw [if_neg (show ¬ (false = true) by decide)] at H
     obtain rfl := Option.some.inj H
     have p461 : 0 ≤ (x11_1 : Int) := qd
     have q461 : x11_1 < (l0.length : Int) := qd
     obtain ⟨ad461, e461, hx461_0⟩ := Kd.at_int HR0.out x11_1 p461 q461
     cases e461
     replace p461 := eq_true p461
     replace q461 := eq_true q461
     go_wp2_with (((with_reducible refine gate_callee (f := 75) rfl ?_); refine gL (some 18) Try.func75 #[.int .i64 (rd l0 x11_1), .int .i64 a1, .int .i64 a2] ?_; (with_reducible refine (spec_l1In.calls (rd l0 x11_1) a1 a2 false _ A7.out).mono ?_); rintro e w' ⟨rfl, ⟨nd, rfl⟩⟩; refine ⟨_, rfl, ?_⟩))
     go_ret
     exact ⟨by first | rfl | (simp; done) | (simp [*]; done), by repeat (first | exact Drawn0.refl _ | apply Drawn0.step)⟩
   ·rw [if_neg c4] at H
    have c4b0 := decide_eq_false c4
    clear c4
    obtain rfl := Option.some.inj H
    go_wp2
    go_ret
    exact ⟨by first | rfl | (simp; done) | (simp [*]; done), by repeat (first | exact Drawn0.refl _ | apply Drawn0.step)⟩
def spec_l1Most.f (a0 : Int) (a1 : Int) : Option (Int) := if a0 > a1 then (some a0) else (some a1)
set_option maxHeartbeats 8000000 in
set_option maxRecDepth 100000 in
theorem spec_l1Most.calls (a0 : Int) (a1 : Int) (r : Int) (w : World) (h : spec_l1Most.f a0 a1 = some r) :
 Calls Try.prog 95 #[.int .i64 a0, .int .i64 a1] w fun e w' => e = .returned (.int .i64 r) ∧ Drawn0 w w' := by
 have H := h
 unfold spec_l1Most.f at H
 clear h
 by_cases c3 : a0 > a1
 ·rw [if_pos c3] at H
  have c3b0 : decide (a1 < a0) = true := decide_eq_true c3
  clear c3
  obtain rfl := Option.some.inj H
  go_enter Try.func95, Try.ntmps95
  go_wp2
  go_ret
  exact ⟨by first | rfl | (simp; done) | (simp [*]; done), by repeat (first | exact Drawn0.refl _ | apply Drawn0.step)⟩
 ·rw [if_neg c3] at H
  have c3b0 : decide (a1 < a0) = false := decide_eq_false c3
  clear c3
  obtain rfl := Option.some.inj H
  go_enter Try.func95, Try.ntmps95
  go_wp2
  go_ret
  exact ⟨by first | rfl | (simp; done) | (simp [*]; done), by repeat (first | exact Drawn0.refl _ | apply Drawn0.step)⟩
def spec_l1Own.f (l0 : List Int) : Option (List Int) := (some (([] : List Int) : List Int)).bind fun y228 => (if y228.length + l0.length < 17592186044416 then (some (y228 ++ l0)) else (none))
set_option maxHeartbeats 8000000 in
set_option maxRecDepth 100000 in
theorem spec_l1Own.calls (A0 : Option Addr) (c0 : Nat) (l0 : List Int) (r : List Int) (w : World) (hr0 : Kd.C (Kd.int .i64) w A0 l0.length l0) (hc0 : l0.length ≤ c0) (h : spec_l1Own.f l0 = some r) :
 Calls Try.prog 125 #[.slice A0 l0.length c0] w fun e w' => ∃ v0_ : Value, e = .returned (v0_) ∧ Kd.R (Kd.int .i64) 3 w' w.heap.size (fun _ => True) v0_ r ∧ Below w.heap.size w w' := by
 have HR0 := am hr0
 have HC0 := am hc0
 clear hr0 hc0
 have HB := am (Below.refl w.heap.size w)
 have H := h
 unfold spec_l1Own.f at H
 clear h
 obtain ⟨y228, hy228⟩ : ∃ y_ : List Int, y_ = (([] : List Int)) := ⟨_, rfl⟩
 replace H : (if y228.length + l0.length < 17592186044416 then (some (y228 ++ l0)) else (none)) = some r := by first | (rw [hy228]; with_reducible exact H) | (have H2_ := (Option.bind_some _ _).symm.trans H; rw [hy228]; with_reducible exact H2_) | (have H2_ := (Option.bind_some _ _).symm.trans H; with_reducible exact H2_) | with_reducible exact H | (rw [hy228]; exact H) | exact H
 have Ny228 := am hy228
 clear hy228
 by_cases c2 : y228.length + l0.length < 17592186044416
 ·rw [if_pos c2] at H
  have LMc2 := am c2
  clear c2
  obtain ⟨y231, hy231⟩ : ∃ y_ : List Int, y_ = (y228 ++ l0) := ⟨_, rfl⟩
  replace H : (some y231) = some r := by first | (rw [hy231]; with_reducible exact H) | (have H2_ := (Option.bind_some _ _).symm.trans H; rw [hy231]; with_reducible exact H2_) | (have H2_ := (Option.bind_some _ _).symm.trans H; with_reducible exact H2_) | with_reducible exact H | (rw [hy231]; exact H) | exact H
  have Ny231 := am hy231
  clear hy231
  obtain rfl := Option.some.inj H
  go_enter Try.func125, Try.ntmps125
  go_wp2_with (first | ((with_reducible refine gate_dst (N := 3) rfl ?_); refine Kd.R_lit (Kd.int .i64) _ 3 ?hg (N := 3) ?hd (xs := ([] : List Int)) (inner := []) (ok := fun _ => True) (okp := fun _ => True) ?hr ?hp (fun _ hk => hk) trivial (Below.refl _ _) (Nat.le_refl _) (by simp) ?_; (case hd => rfl); (case hg => rfl); (case hr => first | (go_simp; done) | (go_simp; rfl)); (case hp => exact (Reps.none _ _)); intro v229 w3 ho4 hb hg_ hnew_; clear hg_ hnew_; (first | rw [← Ny228.out] at ho4 | (simp only [Int.reduceToNat] at ho4; rw [← Ny228.out] at ho4)); have HO230 := am (Kd.R_lower ho4 (below_size qB)); replace HB := am (below_step qB hb); clear hb ho4) | ((with_reducible refine gate_builtin (b := .append) (xs := #[.tmp 3, .tmp 4]) rfl ?_); at_builtin; refine Kd.R_append_rows (Kd.int .i64) (w0 := w) w.heap.size rfl (.tmp 3) (.tmp 4) 24 3 (.int .i64 0) 8 rfl Try.underlying24 info3 rfl (by decide) (by omega) v229 y228 l0 _ _ _ (fun _ => True) (fun _ => False) rfl rfl ?aO ?aR (fun _ _ h => h) (fun _ h => h.elim) ?aF ?aB ?aS ?aL ?_; (case aR => exact qC (Kd.C_below HR0.out HB.out)); (case aB => exact qB); (case aF => exact (fun _ _ => trivial)); (case aO => exact (qR HO230.out)); (case aS => exact (below_size qB)); (case aL => have := LMc2.out; omega); intro v232 w5 ho hb hg hat; rw [← Ny231.out] at ho; have n0_ := am (hb); have HO233 := am (ho); clear HB HO230; have HB := n0_; clear n0_; clear ho hb hg hat))
  go_ret
  exact ⟨_, qr, qR HO233.out, qB⟩
 ·rw [if_neg c2] at H
  exact absurd H (by simp)
def spec_laBound.f (a0 : Int) : Option (Bool) := (spec_l1In.f a0 0 12).bind fun t302 => (some t302)
set_option maxHeartbeats 8000000 in
set_option maxRecDepth 100000 in
theorem spec_laBound.calls (a0 : Int) (r : Bool) (w : World) (h : spec_laBound.f a0 = some r) :
 Calls Try.prog 83 #[.int .i64 a0] w fun e w' => e = .returned (.bool r) ∧ Drawn0 w w' := by
 have H := h
 unfold spec_laBound.f at H
 clear h
 replace H := Option.bind_eq_some_iff.mp H
 obtain ⟨t302, A20, H⟩ := H
 (try dsimp only at H)
 have A2 := am A20
 clear A20
 obtain rfl := Option.some.inj H
 go_enter Try.func83, Try.ntmps83
 go_wp2_with (((with_reducible refine gate_callee (f := 75) rfl ?_); refine gL (some 4) Try.func75 #[.int .i64 a0, .int .i64 0, .int .i64 12] ?_; (with_reducible refine (spec_l1In.calls a0 0 12 t302 _ A2.out).mono ?_); rintro e w' ⟨rfl, ⟨nd, rfl⟩⟩; refine ⟨_, rfl, ?_⟩))
 go_ret
 exact ⟨by first | rfl | (simp; done) | (simp [*]; done), by repeat (first | exact Drawn0.refl _ | apply Drawn0.step)⟩
def spec_laSum.l0 : Nat → Int → List Int → Int → Int → Option (Int)
 | 0, _, _, _, _ => none
 | k + 1, x3, x6, x7, x8 => if x8 < x7 then (if 0 ≤ x8 then (if x8 < (x6.length : Int) then (spec_laSum.l0 k (wrap64 (x3 + (rd x6 x8))) x6 x7 (wrap64 (x8 + 1))) else (none)) else (none)) else (some x3)
def spec_laSum.f (k : Nat) (l0 : List Int) : Option (Int) := spec_laSum.l0 k 0 l0 (l0.length : Int) 0
theorem spec_laSum.mono_l : ∀ k, (∀ y0 y1 y2 y3, LeO (spec_laSum.l0 k y0 y1 y2 y3) (spec_laSum.l0 (k + 1) y0 y1 y2 y3))
 | 0 => fun _ _ _ _ r h => by simp [spec_laSum.l0] at h
 | k + 1 => by
  have ih0 := spec_laSum.mono_l k
  ·intro y0 y1 y2 y3
   unfold spec_laSum.l0
   repeat' first
   | (with_reducible exact LeO.refl _)
   | (with_reducible exact LeO.none _)
   | (with_reducible refine LeO.ite ?_ ?_)
   | (with_reducible refine LeO.bind ?_ (fun _ => ?_))
   | exact ih0 _ _ _ _
   | exact LeO.none _
   | refine LeO.ite ?_ ?_
   | refine LeO.bind ?_ (fun _ => ?_)
theorem spec_laSum.mono : ∀ a0 k, LeO (spec_laSum.f k a0) (spec_laSum.f (k + 1) a0) := by
 intro a0 k
 have ih0 := spec_laSum.mono_l k
 unfold spec_laSum.f
 repeat' first
  | (with_reducible exact LeO.refl _)
  | (with_reducible exact LeO.none _)
  | (with_reducible refine LeO.ite ?_ ?_)
  | (with_reducible refine LeO.bind ?_ (fun _ => ?_))
  | exact ih0 _ _ _ _
  | exact LeO.none _
  | refine LeO.ite ?_ ?_
  | refine LeO.bind ?_ (fun _ => ?_)
set_option maxHeartbeats 8000000 in
set_option maxRecDepth 100000 in
theorem spec_laSum.calls (k : Nat) (A0 : Option Addr) (c0 : Nat) (l0 : List Int) (r : Int) (w : World) (hr0 : Kd.C (Kd.int .i64) w A0 l0.length l0) (hc0 : l0.length ≤ c0) (h : spec_laSum.f k l0 = some r) :
 Calls Try.prog 108 #[.slice A0 l0.length c0] w fun e w' => e = .returned (.int .i64 r) ∧ Drawn0 w w' := by
 have HR0 := am hr0
 have HC0 := am hc0
 clear hr0 hc0
 have H := h
 unfold spec_laSum.f at H
 clear h
 have H' := am H
 clear H
 go_enter Try.func108, Try.ntmps108
 go_wp2
 go_loopg [3, 8] k (fun kq v3 v8 w' => ∃ (x3_1 : Int) (x8_1 : Int), v3 = .int .i64 x3_1 ∧ v8 = .int .i64 x8_1 ∧ Aside0 (spec_laSum.l0 kq x3_1 l0 (l0.length : Int) x8_1 = some r) ∧ Aside0 (kq ≤ k) ∧ Drawn0 w w')
 case atStart => exact ⟨(0), (0), qe, qe, H', ⟨Nat.le_refl _⟩, by repeat (first | exact Drawn0.refl _ | apply Drawn0.step)⟩
 case round =>
  clear H'
  try clear c1
  obtain ⟨x3_1, x8_1, rfl, rfl, HA, HK1, ⟨m1, rfl⟩⟩ := hrel
  cases gk with
  | zero => exact absurd HA.out (by simp [spec_laSum.l0])
  | succ k1 =>
   have H := HA.out
   clear HA
   simp only [spec_laSum.l0] at H
   by_cases c2 : x8_1 < (l0.length : Int)
   ·rw [if_pos c2] at H
    have c2b0 := decide_eq_true c2
    clear c2
    by_cases c3 : 0 ≤ x8_1
    rotate_left
    ·rw [if_neg c3] at H
     exact absurd H (by simp)
    rw [if_pos c3] at H
    have c3b0 := decide_eq_true c3
    clear c3
    by_cases c4 : x8_1 < (l0.length : Int)
    rotate_left
    ·rw [if_neg c4] at H
     exact absurd H (by simp)
    rw [if_pos c4] at H
    have c4b0 := decide_eq_true c4
    clear c4
    have H' := am H
    clear H
    have p892 : 0 ≤ (x8_1 : Int) := qd
    have q892 : x8_1 < (l0.length : Int) := qd
    obtain ⟨ad892, e892, hx892_0⟩ := Kd.at_int HR0.out x8_1 p892 q892
    cases e892
    replace p892 := eq_true p892
    replace q892 := eq_true q892
    go_wp2
    go_roundg k1
    case measure => have := HK1.out; omega
    case rel => exact ⟨(wrap64 (x3_1 + (rd l0 x8_1))), (wrap64 (x8_1 + 1)), qe, qe, H', ⟨by have := HK1.out; omega⟩, by repeat (first | exact Drawn0.refl _ | apply Drawn0.step)⟩
   ·rw [if_neg c2] at H
    have c2b0 := decide_eq_false c2
    clear c2
    obtain rfl := Option.some.inj H
    go_wp2
    go_ret
    exact ⟨by first | rfl | (simp; done) | (simp [*]; done), by repeat (first | exact Drawn0.refl _ | apply Drawn0.step)⟩
def spec_liGcd.l0 : Nat → Int → Int → Option (Int)
 | 0, _, _ => none
 | k + 1, x0, x1 => if x1 > 0 then (if x1 = 0 then (none) else (spec_liGcd.l0 k x1 (Int.tmod x0 x1))) else (some x0)
def spec_liGcd.f (k : Nat) (a0 : Int) (a1 : Int) : Option (Int) := spec_liGcd.l0 k a0 a1
theorem spec_liGcd.mono_l : ∀ k, (∀ y0 y1, LeO (spec_liGcd.l0 k y0 y1) (spec_liGcd.l0 (k + 1) y0 y1))
 | 0 => fun _ _ r h => by simp [spec_liGcd.l0] at h
 | k + 1 => by
  have ih0 := spec_liGcd.mono_l k
  ·intro y0 y1
   unfold spec_liGcd.l0
   repeat' first
   | (with_reducible exact LeO.refl _)
   | (with_reducible exact LeO.none _)
   | (with_reducible refine LeO.ite ?_ ?_)
   | (with_reducible refine LeO.bind ?_ (fun _ => ?_))
   | exact ih0 _ _
   | exact LeO.none _
   | refine LeO.ite ?_ ?_
   | refine LeO.bind ?_ (fun _ => ?_)
theorem spec_liGcd.mono : ∀ a0 a1 k, LeO (spec_liGcd.f k a0 a1) (spec_liGcd.f (k + 1) a0 a1) := by
 intro a0 a1 k
 have ih0 := spec_liGcd.mono_l k
 unfold spec_liGcd.f
 repeat' first
  | (with_reducible exact LeO.refl _)
  | (with_reducible exact LeO.none _)
  | (with_reducible refine LeO.ite ?_ ?_)
  | (with_reducible refine LeO.bind ?_ (fun _ => ?_))
  | exact ih0 _ _
  | exact LeO.none _
  | refine LeO.ite ?_ ?_
  | refine LeO.bind ?_ (fun _ => ?_)
set_option maxHeartbeats 8000000 in
set_option maxRecDepth 100000 in
theorem spec_liGcd.calls (k : Nat) (a0 : Int) (a1 : Int) (r : Int) (w : World) (h : spec_liGcd.f k a0 a1 = some r) :
 Calls Try.prog 107 #[.int .i64 a0, .int .i64 a1] w fun e w' => e = .returned (.int .i64 r) ∧ Drawn0 w w' := by
 have H := h
 unfold spec_liGcd.f at H
 clear h
 have H' := am H
 clear H
 go_enter Try.func107, Try.ntmps107
 go_wp2
 skip
 go_loopg [0, 1] k (fun kq v0 v1 w' => ∃ (x0_1 : Int) (x1_1 : Int), v0 = .int .i64 x0_1 ∧ v1 = .int .i64 x1_1 ∧ Aside0 (spec_liGcd.l0 kq x0_1 x1_1 = some r) ∧ Aside0 (kq ≤ k) ∧ Drawn0 w w')
 case atStart => exact ⟨(a0), (a1), qe, qe, H', ⟨Nat.le_refl _⟩, by repeat (first | exact Drawn0.refl _ | apply Drawn0.step)⟩
 case round =>
  clear H'
  try clear c1
  try clear p2
  obtain ⟨x0_1, x1_1, rfl, rfl, HA, HK1, ⟨m1, rfl⟩⟩ := hrel
  cases gk with
  | zero => exact absurd HA.out (by simp [spec_liGcd.l0])
  | succ k1 =>
   have H := HA.out
   clear HA
   simp only [spec_liGcd.l0] at H
   by_cases c3 : x1_1 > 0
   ·rw [if_pos c3] at H
    have c3b0 : decide (0 < x1_1) = true := decide_eq_true c3
    clear c3
    by_cases c4 : x1_1 = 0
    ·rw [if_pos c4] at H
     exact absurd H (by simp)
    ·rw [if_neg c4] at H
     have c4b0 : (x1_1 == 0) = false := beq_eq_false_iff_ne.mpr c4
     have c4b1 : (x1_1 != 0) = true := bne_iff_ne.mpr c4
     have H' := am H
     clear H
     go_wp2
     repeat (go_quiet (fail); try go_wp2)
     go_roundg k1
     case measure => have := HK1.out; omega
     case rel => exact ⟨(x1_1), (Int.tmod x0_1 x1_1), qe, qe, H', ⟨by have := HK1.out; omega⟩, by repeat (first | exact Drawn0.refl _ | apply Drawn0.step)⟩
   ·rw [if_neg c3] at H
    have c3b0 : decide (0 < x1_1) = false := decide_eq_false c3
    clear c3
    obtain rfl := Option.some.inj H
    go_wp2
    skip
    go_ret
    exact ⟨by first | rfl | (simp; done) | (simp [*]; done), by repeat (first | exact Drawn0.refl _ | apply Drawn0.step)⟩
end Go.Proofs.Ytmbojobkiainlaa.F
end
