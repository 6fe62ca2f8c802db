/-
  No index: Drop tells nothing gone.
-/
import Derived.Test.YtigdibglkejciaaB12
namespace Go.Proofs.Ytigdibglkejciaa.Buck
open Go.RowKit Go
set_option linter.unusedSimpArgs false
attribute [local go_sem] Oper.semAt_some

structure NI (w0 A : World) : Prop where
  bel : Below w0.heap.size w0 A
  x0 : A.heap[w0.heap.size]? = some (.cells #[.pointer none] 23 (0, 0))
  x2 : A.heap[w0.heap.size + 2]? = some (.cells #[.int .i64 0] 3 (0, 0))
  x3 : A.heap[w0.heap.size + 3]? = some (.cells #[.pointer none] 23 (0, 0))
theorem NI.kept {w0 A W : World} {row : Option Nat} (h : NI w0 A) (hg : A.grownBy W row) (hr : ∀ r, row = some r → w0.heap.size + 4 ≤ r) : NI w0 W := by
  have hl := lt_of_block h.x3
  have keep : ∀ b, b < w0.heap.size + 4 → W.heap[b]? = A.heap[b]? := fun b hb => hg.block b (by omega) (fun e => by have := hr b e.symm; omega)
  exact ⟨h.bel.grown hg h.bel.size (fun r e => by have := hr r e; omega), (keep _ (by omega)).trans h.x0, (keep _ (by omega)).trans h.x2, (keep _ (by omega)).trans h.x3⟩
theorem NI.start (w0 : World) (id : Int) : NI w0 ((((w0.alloc (.cells #[.pointer none] 23)).alloc (.cells #[.int .i64 id] 3)).alloc (.cells #[.int .i64 0] 3)).alloc (.cells #[.pointer none] 23)) := by
  have n0 := new_cells w0 #[.pointer none] 23
  have n2 := new_cells ((w0.alloc (.cells #[.pointer none] 23)).alloc (.cells #[.int .i64 id] 3)) #[.int .i64 0] 3
  have n3 := new_cells (((w0.alloc (.cells #[.pointer none] 23)).alloc (.cells #[.int .i64 id] 3)).alloc (.cells #[.int .i64 0] 3)) #[.pointer none] 23
  simp only [World.size_alloc] at n2 n3
  have up : ∀ (W : World) (o : Obj) (b : Nat) (x : Obj), W.heap[b]? = some x → (W.alloc o).heap[b]? = some x := fun W o b x h => (Below.heap_alloc W o b (Array.getElem?_eq_some_iff.1 h).1).trans h
  exact ⟨((((bel1 w0 _).alloc (by simp) _).alloc (by simp only [World.size_alloc]; omega) _).alloc (by simp only [World.size_alloc]; omega) _), up _ _ _ _ (up _ _ _ _ (up _ _ _ _ n0)), up _ _ _ _ n2, n3⟩
set_option maxRecDepth 100000 in
set_option maxHeartbeats 8000000 in
theorem drop_nil (w : World) (id : Int) : Calls Try.prog 54 #[.pointer none, .int .i64 id] w fun e w' => e = .returned (.int .i64 0) ∧ Below w.heap.size w w' := by
  refine (callsIn_wide (n := 4)).1 ?_
  refine callsIn_of_wp_marks Try.func54 rfl trivial ?_ rfl
  simp only [Try.ntmps54, List.size_toArray, List.length_cons, List.length_nil, Nat.reduceAdd, Nat.reduceSub, Array.replicate_succ, Array.replicate_zero, List.push_toArray, List.append_toArray, List.nil_append, List.cons_append]
  gi_wp2_with (refine ⟨trivial, ?_⟩; gi_at_call 78; refine (callsIn_wide.2 (each_maker _ _)).mono ?_; rintro e w1 ⟨rfl, rfl⟩)
  have hx := NI.start w id
  have hsz : ((((w.alloc (.cells #[.pointer none] 23)).alloc (.cells #[.int .i64 id] 3)).alloc (.cells #[.int .i64 0] 3)).alloc (.cells #[.pointer none] 23)).heap.size = w.heap.size + 4 := by simp
  generalize ((((w.alloc (.cells #[.pointer none] 23)).alloc (.cells #[.int .i64 id] 3)).alloc (.cells #[.int .i64 0] 3)).alloc (.cells #[.pointer none] 23)) = w4 at hx hsz ⊢
  refine range_law rfl (by omega) (gf := 85) (lb := #[.pointer (some ⟨w.heap.size + 3, 0, none⟩)]) rfl trivial (enters_of Try.func85 (by kernel_rfl) rfl) (M := 0)
    (each_none 3 (w.heap.size + 3) (fun _ A => A.cell? ⟨w.heap.size + 3, 0, none⟩ = some (.pointer none)) (fun _ => False) (fun _ _ _ _ => False) (fun A h => h)) (by rintro k xs h A hf; exact hf.elim)
    (fun k A => NI w A) (fun _ _ => False) ?own (fun _ _ _ _ hs _ _ => hs) (fun k A h => cells_of h.x3 0) (fun k A h hn => hn.elim) (fun _ _ _ _ _ _ hs _ _ => hs) hx
    (fun _ => { tmps := #[], defers := [] }) ?assign ?body ?done ?stop
  case own =>
    rintro k A W row h hg hr
    exact h.kept hg (fun r e => by rw [← hsz]; exact (hr r e).1)
  case assign =>
    rintro l k xs hh W K hf
    exact hf.elim
  case body =>
    rintro l k xs A W h hr hg hl hk hf
    exact hf.elim
  case done =>
    rintro D W hD hW hd
    have c0 := cells_of hW.x0
    have c2 : W.cell? ⟨w.heap.size + 1 + 1, 0, none⟩ = some (.int .i64 0) := cells_of hW.x2 0
    have HD := Lib.hid hd
    have HW := Lib.hid (hW.kept (grownBy_putObj' W D (.deferred none)) (fun r e => by have : D = r := Option.some.inj e; omega)).bel
    clear hx hW hd
    gi_wp2
    refine ⟨by simp, .inl ⟨_, _, rfl, run_takeDeferred HD.out, ?_⟩⟩
    refine ⟨_, results_tmp rfl _ _ _, ?_⟩
    exact ⟨rfl, HW.out⟩
  case stop =>
    rintro D c W hD h _
    exact h.elim
end Go.Proofs.Ytigdibglkejciaa.Buck
