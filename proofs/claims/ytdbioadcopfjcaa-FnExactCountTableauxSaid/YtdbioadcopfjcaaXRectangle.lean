-- EXT loop.example/g01138/impl.rectangle name=impl_rectangle rounds=1 making=1
-- rectangle: the poset that 'made' makes of the rectangle's test.
import Derived.Test.YtdbioadcopfjcaaCLitRectangle
import Derived.Test.YtdbioadcopfjcaaCMadeRectangle
import Derived.Lib.Hide
namespace Go.Proofs.Ytdbioadcopfjcaa.F
open Go.RowKit Go.Proofs.YtdbioadcopfjcaaW.PrintWords Go.Proofs.YtdbioadcopfjcaaW.PrintLast Go.Proofs.YtdbioadcopfjcaaW.PrintMore
set_option linter.unusedVariables false
set_option linter.unusedSimpArgs false
def impl_rectangle.f (k : Nat) (a0 a1 : Int) : Option (List Int) := made_rectangle.f (fun j i => lit_rectangle.f j i a1) k (wrap64 (a0 * a1))
theorem impl_rectangle.mono : ∀ a0 a1 k, LeO (impl_rectangle.f k a0 a1) (impl_rectangle.f (k + 1) a0 a1) := fun a0 a1 k => made_rectangle.mono _ _ k
set_option maxHeartbeats 8000000 in
set_option maxRecDepth 100000 in
theorem impl_rectangle.calls (k : Nat) (a0 : Int) (a1 : Int) (r : List Int) (w : World) (h : impl_rectangle.f k a0 a1 = some r) :
    Calls Try.prog 54 #[.int .i64 a0, .int .i64 a1] w fun e w' => ∃ v0_ : Value, e = .returned (.agg #[v0_]) ∧ Kd.R (Kd.int .i64) 3 w' w.heap.size (fun _ => True) v0_ r ∧ Below w.heap.size w w' := by
  unfold impl_rectangle.f at h
  have hmf : ∀ (fn : Fn) (first cap : Array Value) (w : World), (Instr.makeFunc fn first cap).run Try.prog w = .ok (.func fn first cap) w := fun _ _ _ _ => rfl
  have hu39 := Try.underlying39
  obtain ⟨W, hW⟩ : ∃ W, W = (w.alloc (.cells #[.int .i64 a1] 3 (0, 0))).alloc (.cells #[.slice none 0 0] 39 (0, 0)) := ⟨_, rfl⟩
  have hsz : W.heap.size = w.heap.size + 2 := by rw [hW]; simp
  have hcB : W.cell? ⟨w.heap.size, 0, none⟩ = some (.int .i64 a1) := by rw [hW, World.cell?_alloc_past _ _ _ (by simp), World.cell?_alloc_at _ _ _ _ rfl]; rfl
  have hP : W.heap[w.heap.size + 1]? = some (.cells #[.slice none 0 0] 39 (0, 0)) := by rw [hW]; simpa using heap_alloc_new (w.alloc (.cells #[.int .i64 a1] 3 (0, 0))) (.cells #[.slice none 0 0] 39 (0, 0))
  have hbW : Below w.heap.size w W := by rw [hW]; exact ((Below.refl _ _).alloc (Nat.le_refl _) _).alloc (by simp) _
  have HF : Aside0 (∀ (x0_ : Int) (x1_ : Int) (r_ : Bool) (W' : World), lit_rectangle.f x0_ x1_ a1 = some r_ → Below W.heap.size W W' → Calls Try.prog 62 #[.int .i64 x0_, .int .i64 x1_, .pointer (some ⟨w.heap.size, 0, none⟩)] W' fun e w' => e = .returned (.bool r_) ∧ Drawn0 W' w') :=
    ⟨fun x0_ x1_ r_ W' hF hb => lit_rectangle.calls w.heap.size x0_ x1_ a1 r_ W' ((hb.cell (p := ⟨w.heap.size, 0, none⟩) (by rw [hsz]; show w.heap.size < w.heap.size + 2; omega)).trans hcB) hF⟩
  have hcall := made_rectangle.calls (fun j i => lit_rectangle.f j i a1) w.heap.size k _ r W HF h
  have hcall' : Aside0 (Calls Try.prog 49 #[.int .i64 (wrap64 (a0 * a1)), .func (.func 62) #[] #[.pointer (some ⟨w.heap.size, 0, none⟩)]] ((w.alloc (.cells #[.int .i64 a1] 3 (0, 0))).alloc (.cells #[.slice none 0 0] 39 (0, 0))) fun e w' => ∃ v0_ : Value, e = .returned (.agg #[v0_]) ∧ (Kd.R (Kd.int .i64) 3 w' W.heap.size (fun _ => True) v0_ r ∧ Below W.heap.size W w')) := ⟨by rw [← hW]; exact hcall⟩
  have HW := Lib.hid hW
  clear hcall HF h hW
  have HP := Aside0.mk hP
  have HsW := Aside0.mk hsz
  have HbW := Aside0.mk hbW
  clear hcB hP hsz hbW
  go_enter Try.func54, Try.ntmps54
  go_wp2_with fail
  refine hcall'.out.mono ?_
  rintro e w1 ⟨v, rfl, ho, hb⟩
  have hlt : w.heap.size + 1 < W.heap.size := by have := HsW.out; omega
  have hP1 := Aside0.mk ((hb.block (w.heap.size + 1) hlt).trans HP.out)
  have hc1 : w1.cell? ⟨w.heap.size + 1, 0, none⟩ = some (.slice none 0 0) := (blk_cell hP1.out 0).trans rfl
  have hf1 := blk_frozen hP1.out 0
  obtain ⟨Ao, co, eo⟩ := Kd.R_slice ho
  subst eo
  have Ho := Aside0.mk ho
  have Hb := Aside0.mk hb
  have Hlt := Aside0.mk hlt
  clear ho hb hlt hmf
  go_wp2
  refine bodyPost_ret (results_cell_row rfl _ _ (w.heap.size + 1) 39 #[.slice Ao r.length co] (0, 0) _ rfl (blk_put (cs := #[.slice none 0 0]) hP1.out 0 _ rfl) Try.underlying39 rfl (by kernel_rfl)) rfl ⟨_, rfl, ?_, ?_⟩
  · refine Kd.R_lower (base := W.heap.size) ?_ (by have := HsW.out; omega)
    exact Kd.R_mono (Kd.R_far (p := ⟨w.heap.size + 1, 0, none⟩) (Kd.R_bound Ho.out) (fun k hk => by have := hk.2.1; have := Hlt.out; show k ≠ w.heap.size + 1; omega) _) (fun _ _ => trivial)
  · exact (HbW.out.trans (Hb.out.mono (by have := HsW.out; omega))).setCell (by show w.heap.size ≤ w.heap.size + 1; omega) _
end Go.Proofs.Ytdbioadcopfjcaa.F
