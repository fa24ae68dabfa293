-- EXT loop.example/g01138/impl.rootSum name=impl_rootSum rounds=0 making=1
-- rootSum: the sum over the divisors.
import Derived.Test.YtdbioadcopfjcaaCLitRootSum
import Derived.Test.YtdbioadcopfjcaaCSumRootSum
import Derived.Test.YtdbioadcopfjcaaFImplDivisors
import Derived.Lib.Hide
namespace Go.Proofs.Ytdbioadcopfjcaa.F
open Go.RowKit Go.Proofs.YtdbioadcopfjcaaW.PrintWords Go.Proofs.YtdbioadcopfjcaaW.PrintLast Go.Proofs.YtdbioadcopfjcaaW.PrintMore
set_option linter.unusedVariables false
set_option linter.unusedSimpArgs false
def impl_rootSum.f (a0 a1 : Int) : Option Int := (impl_divisors.f 200 a0).bind fun l => sum_rootSum.f (fun x => lit_rootSum.f 200 x a1 a0) 200 l
set_option maxHeartbeats 8000000 in
set_option maxRecDepth 100000 in
theorem impl_rootSum.calls (a0 : Int) (a1 : Int) (r : Int) (w : World) (h : impl_rootSum.f a0 a1 = some r) :
    Calls Try.prog 30 #[.int .i64 a0, .int .i64 a1] w fun e w' => e = .returned (.int .i64 r) ∧ Below w.heap.size w w' := by
  unfold impl_rootSum.f at h
  obtain ⟨l, hd, hs⟩ := Option.bind_eq_some_iff.1 h
  clear h
  have hmf : ∀ (fn : Fn) (first cap : Array Value) (w : World), (Instr.makeFunc fn first cap).run Try.prog w = .ok (.func fn first cap) w := fun _ _ _ _ => rfl
  obtain ⟨W, hW⟩ : ∃ W, W = (w.alloc (.cells #[.int .i64 a0] 3 (0, 0))).alloc (.cells #[.int .i64 a1] 3 (0, 0)) := ⟨_, rfl⟩
  have hsz : W.heap.size = w.heap.size + 2 := by rw [hW]; simp
  have hcM : W.cell? ⟨w.heap.size, 0, none⟩ = some (.int .i64 a0) := by rw [hW, World.cell?_alloc_past _ _ _ (by simp), World.cell?_alloc_at _ _ _ _ rfl]; rfl
  have hcD : W.cell? ⟨w.heap.size + 1, 0, none⟩ = some (.int .i64 a1) := by rw [hW, World.cell?_alloc_at _ _ _ _ (by simp)]; rfl
  have hbW : Below w.heap.size w W := by rw [hW]; exact ((Below.refl _ _).alloc (Nat.le_refl _) _).alloc (by simp) _
  have hdiv := impl_divisors.calls 200 a0 l W hd
  have hdiv' : Aside0 (Calls Try.prog 46 #[.int .i64 a0] ((w.alloc (.cells #[.int .i64 a0] 3 (0, 0))).alloc (.cells #[.int .i64 a1] 3 (0, 0))) fun e w' => ∃ v0_ : Value, e = .returned v0_ ∧ (Kd.R (Kd.int .i64) 3 w' W.heap.size (fun _ => True) v0_ l ∧ Below W.heap.size W w')) := ⟨by rw [← hW]; exact hdiv⟩
  have hsum : Aside0 (∀ (W1 : World) (A : Option Addr) (c : Nat), Below W.heap.size W W1 → Kd.C (Kd.int .i64) W1 A l.length l → l.length ≤ c → Calls Try.prog 45 #[.slice A l.length c, .func (.func 47) #[] #[.pointer (some ⟨w.heap.size + 1, 0, none⟩), .pointer (some ⟨w.heap.size, 0, none⟩)]] W1 fun e w' => e = .returned (.int .i64 r) ∧ Drawn0 W1 w') :=
    ⟨fun W1 A c hb hr hc => sum_rootSum.calls (fun x => lit_rootSum.f 200 x a1 a0) (w.heap.size + 1) w.heap.size 200 A c l r W1
      ⟨fun x r_ W' hF hb' => lit_rootSum.calls (w.heap.size + 1) w.heap.size 200 x a1 a0 r_ W'
        (((hb.trans (hb'.mono (hb.size))).cell (p := ⟨w.heap.size + 1, 0, none⟩) (by rw [hsz]; show w.heap.size + 1 < w.heap.size + 2; omega)).trans hcD)
        (((hb.trans (hb'.mono (hb.size))).cell (p := ⟨w.heap.size, 0, none⟩) (by rw [hsz]; show w.heap.size < w.heap.size + 2; omega)).trans hcM) hF⟩ hr hc hs⟩
  have HW := Lib.hid hW
  have HsW := Aside0.mk hsz
  have HbW := Aside0.mk hbW
  clear hdiv hd hs hW hcM hcD hsz hbW
  go_enter Try.func30, Try.ntmps30
  go_wp2_with fail
  refine hdiv'.out.mono ?_
  rintro e w1 ⟨v, rfl, ho, hb⟩
  obtain ⟨A, c, rfl, hl, hr⟩ := Kd.R_reads ho
  have Hc := Aside0.mk (hsum.out w1 A c hb hr hl)
  have Hb := Aside0.mk hb
  clear ho hl hr hb hsum hdiv'
  go_wp2_with (go_at_call 45; (with_reducible refine Hc.out.mono ?_); rintro e w' ⟨rfl, ⟨nd, rfl⟩⟩)
  go_ret
  refine ⟨rfl, ?_⟩
  have hfin : Below w.heap.size w w1 := HbW.out.trans (Hb.out.mono (by have := HsW.out; omega))
  repeat (first | exact hfin | apply pw_below_drewN | apply below_drew1)
end Go.Proofs.Ytdbioadcopfjcaa.F
