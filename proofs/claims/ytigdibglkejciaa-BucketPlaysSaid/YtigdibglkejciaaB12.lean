/-
  told: an index tells all buckets of the live items, once each, in their order.
-/
import Derived.Test.YtigdibglkejciaaB11
import Derived.Laws.ResultCell
namespace Go.Proofs.Ytigdibglkejciaa.Buck
open Go.RowKit Go
set_option linter.unusedSimpArgs false
attribute [local go_sem] Oper.semAt_some

def tot (bk : Int → List Int) : Nat → Nat
  | 0 => 0
  | k + 1 => tot bk k + (bk k).length
theorem tot_bound (bk : Int → List Int) (hb : ∀ j, (bk j).length ≤ 1000) : ∀ k, tot bk k ≤ 1000 * k
  | 0 => Nat.le_refl _
  | k + 1 => by have := tot_bound bk hb k; have := hb k; simp only [tot]; omega
/-- Ahead of round k. -/
structure TI (w0 : World) (p : Option Addr) (lv : Value) (upto : Int) (bk : Int → List Int) (k : Nat) (L : Int) (A : World) : Prop where
  bel : Below w0.heap.size w0 A
  last : L < (k : Int)
  x0 : A.heap[w0.heap.size]? = some (.cells #[lv] 59 (0, 0))
  x1 : A.heap[w0.heap.size + 1]? = some (.cells #[.int .i64 upto] 3 (0, 0))
  x2 : A.heap[w0.heap.size + 2]? = some (.cells #[.bool false] 4 (0, 0))
  x3 : A.heap[w0.heap.size + 3]? = some (.cells #[.int .i64 L] 3 (0, 0))
  x4 : A.heap[w0.heap.size + 4]? = some (.cells #[.pointer p] 23 (0, 0))
  x5 : A.heap[w0.heap.size + 5]? = some (.cells #[.int .i64 (tot bk k : Nat)] 3 (0, 0))
def TE (w0 : World) (A : World) : Prop := Below w0.heap.size w0 A ∧ A.heap[w0.heap.size + 2]? = some (.cells #[.bool true] 4 (0, 0))
theorem TI.kept {w0 A W : World} {p : Option Addr} {lv : Value} {upto : Int} {bk : Int → List Int} {k : Nat} {L : Int} {row : Option Nat} (h : TI w0 p lv upto bk k L A) (hg : A.grownBy W row) (hr : ∀ r, row = some r → w0.heap.size + 6 ≤ r) : TI w0 p lv upto bk k L W := by
  have hl := lt_of_block h.x5
  have keep : ∀ b, b < w0.heap.size + 6 → W.heap[b]? = A.heap[b]? := fun b hb => hg.block b (by omega) (fun e => by have := hr b e.symm; omega)
  exact ⟨h.bel.grown hg h.bel.size (fun r e => by have := hr r e; omega), h.last, (keep _ (by omega)).trans h.x0, (keep _ (by omega)).trans h.x1, (keep _ (by omega)).trans h.x2, (keep _ (by omega)).trans h.x3, (keep _ (by omega)).trans h.x4, (keep _ (by omega)).trans h.x5⟩
theorem TE.kept {w0 A W : World} {row : Option Nat} (h : TE w0 A) (hg : A.grownBy W row) (hr : ∀ r, row = some r → w0.heap.size + 6 ≤ r) : TE w0 W := by
  have hl := lt_of_block h.2
  exact ⟨h.1.grown hg h.1.size (fun r e => by have := hr r e; omega), (hg.block _ hl (fun e => by have := hr _ e.symm; omega)).trans h.2⟩
theorem TI.start (w0 : World) (p : Option Addr) (lv : Value) (upto : Int) (bk : Int → List Int) :
    TI w0 p lv upto bk 0 (-1) ((((((w0.alloc (.cells #[lv] 59)).alloc (.cells #[.int .i64 upto] 3)).alloc (.cells #[.bool false] 4)).alloc (.cells #[.int .i64 (-1)] 3)).alloc (.cells #[.pointer p] 23)).alloc (.cells #[.int .i64 0] 3)) := by
  have n0 := new_cells w0 #[lv] 59
  have n1 := new_cells (w0.alloc (.cells #[lv] 59)) #[.int .i64 upto] 3
  have n2 := new_cells ((w0.alloc (.cells #[lv] 59)).alloc (.cells #[.int .i64 upto] 3)) #[.bool false] 4
  have n3 := new_cells (((w0.alloc (.cells #[lv] 59)).alloc (.cells #[.int .i64 upto] 3)).alloc (.cells #[.bool false] 4)) #[.int .i64 (-1)] 3
  have n4 := new_cells ((((w0.alloc (.cells #[lv] 59)).alloc (.cells #[.int .i64 upto] 3)).alloc (.cells #[.bool false] 4)).alloc (.cells #[.int .i64 (-1)] 3)) #[.pointer p] 23
  have n5 := new_cells (((((w0.alloc (.cells #[lv] 59)).alloc (.cells #[.int .i64 upto] 3)).alloc (.cells #[.bool false] 4)).alloc (.cells #[.int .i64 (-1)] 3)).alloc (.cells #[.pointer p] 23)) #[.int .i64 0] 3
  simp only [World.size_alloc] at n1 n2 n3 n4 n5
  have up : ∀ (W : World) (o : Obj) (b : Nat) (x : Obj), W.heap[b]? = some x → (W.alloc o).heap[b]? = some x := fun W o b x h => (Below.heap_alloc W o b (Array.getElem?_eq_some_iff.1 h).1).trans h
  exact ⟨((((((bel1 w0 _).alloc (by simp) _).alloc (by simp only [World.size_alloc]; omega) _).alloc (by simp only [World.size_alloc]; omega) _).alloc (by simp only [World.size_alloc]; omega) _).alloc (by simp only [World.size_alloc]; omega) _), by omega,
    up _ _ _ _ (up _ _ _ _ (up _ _ _ _ (up _ _ _ _ (up _ _ _ _ n0)))), up _ _ _ _ (up _ _ _ _ (up _ _ _ _ (up _ _ _ _ n1))), up _ _ _ _ (up _ _ _ _ (up _ _ _ _ n2)), up _ _ _ _ (up _ _ _ _ n3), up _ _ _ _ n4, n5⟩
/-- A round's stores. -/
theorem TI.step {w0 W1 : World} {p : Option Addr} {lv : Value} {upto : Int} {bk : Int → List Int} {k g : Nat} {L : Int} (h : TI w0 p lv upto bk k L W1) (hg : w0.heap.size + 6 ≤ g) (u : Value) :
    (W1.setCell ⟨g, 0, none⟩ u).cell? ⟨w0.heap.size + 1 + 1 + 1, 0, none⟩ = some (.int .i64 L) ∧ (W1.setCell ⟨g, 0, none⟩ u).frozen? ⟨w0.heap.size + 1 + 1 + 1, 0, none⟩ = false ∧
    ((W1.setCell ⟨g, 0, none⟩ u).setCell ⟨w0.heap.size + 1 + 1 + 1, 0, none⟩ (.int .i64 (k : Int))).cell? ⟨w0.heap.size + 1 + 1 + 1 + 1 + 1, 0, none⟩ = some (.int .i64 (tot bk k : Nat)) ∧ ((W1.setCell ⟨g, 0, none⟩ u).setCell ⟨w0.heap.size + 1 + 1 + 1, 0, none⟩ (.int .i64 (k : Int))).frozen? ⟨w0.heap.size + 1 + 1 + 1 + 1 + 1, 0, none⟩ = false ∧
    (∀ S : Int, S = (tot bk (k + 1) : Nat) → TI w0 p lv upto bk (k + 1) k (((W1.setCell ⟨g, 0, none⟩ u).setCell ⟨w0.heap.size + 1 + 1 + 1, 0, none⟩ (.int .i64 (k : Int))).setCell ⟨w0.heap.size + 1 + 1 + 1 + 1 + 1, 0, none⟩ (.int .i64 S))) := by
  have G1 := gset W1 g 0 u
  have h1 := h.kept G1 (fun r e => by have : g = r := Option.some.inj e; omega)
  have G2 := gset (W1.setCell ⟨g, 0, none⟩ u) (w0.heap.size + 3) 0 (.int .i64 (k : Int))
  have x5 := (G2.block _ (lt_of_block h1.x5) (fun e => by have : w0.heap.size + 5 = w0.heap.size + 3 := Option.some.inj e; omega)).trans h1.x5
  refine ⟨cells_of h1.x3 0, cells_free h1.x3 0, cells_of x5 0, cells_free x5 0, fun S hS => ?_⟩
  have G3 := gset ((W1.setCell ⟨g, 0, none⟩ u).setCell ⟨w0.heap.size + 3, 0, none⟩ (.int .i64 (k : Int))) (w0.heap.size + 5) 0 (.int .i64 S)
  have s2 := G2.size
  have hl := lt_of_block h1.x5
  have keep : ∀ b, b < w0.heap.size + 6 → b ≠ w0.heap.size + 3 → b ≠ w0.heap.size + 5 → (((W1.setCell ⟨g, 0, none⟩ u).setCell ⟨w0.heap.size + 3, 0, none⟩ (.int .i64 (k : Int))).setCell ⟨w0.heap.size + 5, 0, none⟩ (.int .i64 S)).heap[b]? = (W1.setCell ⟨g, 0, none⟩ u).heap[b]? := fun b hb e1 e2 =>
    (G3.block b (by omega) (fun e => e2 (Option.some.inj e))).trans (G2.block b (by omega) (fun e => e1 (Option.some.inj e)))
  subst hS
  refine ⟨(h1.bel.setCell (p := ⟨w0.heap.size + 3, 0, none⟩) (by show w0.heap.size ≤ w0.heap.size + 3; omega) _).setCell (p := ⟨w0.heap.size + 5, 0, none⟩) (by show w0.heap.size ≤ w0.heap.size + 5; omega) _, by omega, (keep _ (by omega) (by omega) (by omega)).trans h1.x0, (keep _ (by omega) (by omega) (by omega)).trans h1.x1, (keep _ (by omega) (by omega) (by omega)).trans h1.x2, ?_, (keep _ (by omega) (by omega) (by omega)).trans h1.x4, ?_⟩
  · exact (G3.block _ (by omega) (fun e => by have : w0.heap.size + 3 = w0.heap.size + 5 := Option.some.inj e; omega)).trans (heap_setCell_same _ _ 0 _ _ _ h1.x3)
  · exact heap_setCell_same _ _ 0 _ _ _ x5
theorem TI.left {w0 A : World} {p : Option Addr} {lv : Value} {upto : Int} {bk : Int → List Int} {k : Nat} {L : Int} (h : TI w0 p lv upto bk k L A) : TE w0 (A.setCell ⟨w0.heap.size + 1 + 1, 0, none⟩ (.bool true)) :=
  ⟨h.bel.setCell (p := ⟨w0.heap.size + 2, 0, none⟩) (by show w0.heap.size ≤ w0.heap.size + 2; omega) _, heap_setCell_same _ _ 0 _ _ _ h.x2⟩
theorem TI.skip {w0 A : World} {p : Option Addr} {lv : Value} {upto : Int} {bk : Int → List Int} {k : Nat} {L : Int} (h : TI w0 p lv upto bk k L A) (hn : bk k = []) : TI w0 p lv upto bk (k + 1) L A :=
  { h with last := by have := h.last; omega
           x5 := by have e : tot bk (k + 1) = tot bk k := by simp [tot, hn]
                    rw [e]; exact h.x5 }
theorem TI.mem {w0 A : World} {base bx mb M : Nat} {many : Int} {N : Nat} {bk : Int → List Int} {V0 : Int → Value} {lv : Value} {upto : Int} {k : Nat} {L : Int} (hM : M ≤ 1024) (h0 : Idx w0 base bx mb M many N bk V0) (h : TI w0 (some ⟨bx, 0, none⟩) lv upto bk k L A) : Mem (w0.heap.size + 4) bx mb M (fun k => bk (k : Int)) k A := by
  have hi := h0.below h.bel
  refine ⟨cells_of h.x4 0, ⟨many, hi.box⟩, fun hk => ?_⟩
  have hl := hi.map.look_ok (k := (k : Int)) (wf_int (by omega) (by omega))
  by_cases hne : bk k = []
  · rw [if_pos hne] at hl
    exact ⟨nilS, by simpa [hne] using hl, fun h => absurd hne h⟩
  · rw [if_neg hne] at hl
    exact ⟨V0 k, by simpa [hne] using hl, fun _ => row_zero (hi.rows k hne)⟩
theorem ints_same (v u : Value) (x y : List Int) (w : World) (hxy : x = y) (hv : RInts w v x) (hu : RInts w u y) :
    Calls Try.prog 55 #[v, u] w fun e w' => e = .returned (.bool true) ∧ Below w.heap.size w w' := by
  refine (ints_any v u x y w hv hu).mono ?_
  rintro e w' ⟨rfl, hb⟩
  exact ⟨by rw [hxy]; simp, hb⟩
theorem told_facts {w0 W W0 W1 : World} {p : Option Addr} {lv : Value} {upto : Int} {bk : Int → List Int} {k g cap T : Nat} {L : Int} (hW : TI w0 p lv upto bk k L W) (hrow : W.ownsRow 0 3 1 (.slice (some ⟨g, 0, none⟩) (bk k).length cap) (bk k).length (ints (bk k))) (hpos : 0 < (bk k).length)
    (hb1 : Below W.heap.size W W0) (hb2 : Below W0.heap.size W0 W1) (hg : w0.heap.size + 6 ≤ g) (hT : tot bk k = T) (hTe : tot bk (k + 1) = T + (bk k).length) :
    TI w0 p lv upto bk k L W1 ∧ W1.cell? ⟨g, 0, none⟩ = some (.int .i64 ((bk k).getD 0 0)) ∧ W1.frozen? ⟨g, 0, none⟩ = false ∧
    (∀ u, (W1.setCell ⟨g, 0, none⟩ u).cell? ⟨w0.heap.size + 1 + 1 + 1, 0, none⟩ = some (.int .i64 L)) ∧ (∀ u, (W1.setCell ⟨g, 0, none⟩ u).frozen? ⟨w0.heap.size + 1 + 1 + 1, 0, none⟩ = false) ∧
    (∀ u, ((W1.setCell ⟨g, 0, none⟩ u).setCell ⟨w0.heap.size + 1 + 1 + 1, 0, none⟩ (.int .i64 (k : Int))).cell? ⟨w0.heap.size + 1 + 1 + 1 + 1 + 1, 0, none⟩ = some (.int .i64 (T : Int))) ∧ (∀ u, ((W1.setCell ⟨g, 0, none⟩ u).setCell ⟨w0.heap.size + 1 + 1 + 1, 0, none⟩ (.int .i64 (k : Int))).frozen? ⟨w0.heap.size + 1 + 1 + 1 + 1 + 1, 0, none⟩ = false) ∧
    (∀ u, (((W1.setCell ⟨g, 0, none⟩ u).setCell ⟨w0.heap.size + 1 + 1 + 1, 0, none⟩ (.int .i64 (k : Int))).setCell ⟨w0.heap.size + 1 + 1 + 1 + 1 + 1, 0, none⟩ (.int .i64 ((T : Int) + ((bk k).length : Int)))).cell? ⟨w0.heap.size + 1, 0, none⟩ = some (.int .i64 upto)) ∧
    (∀ u, (((W1.setCell ⟨g, 0, none⟩ u).setCell ⟨w0.heap.size + 1 + 1 + 1, 0, none⟩ (.int .i64 (k : Int))).setCell ⟨w0.heap.size + 1 + 1 + 1 + 1 + 1, 0, none⟩ (.int .i64 ((T : Int) + ((bk k).length : Int)))).cell? ⟨w0.heap.size + 1 + 1, 0, none⟩ = some (.bool false)) ∧
    (∀ u, (((W1.setCell ⟨g, 0, none⟩ u).setCell ⟨w0.heap.size + 1 + 1 + 1, 0, none⟩ (.int .i64 (k : Int))).setCell ⟨w0.heap.size + 1 + 1 + 1 + 1 + 1, 0, none⟩ (.int .i64 ((T : Int) + ((bk k).length : Int)))).frozen? ⟨w0.heap.size + 1 + 1, 0, none⟩ = false) ∧
    (∀ u, TI w0 p lv upto bk (k + 1) k (((W1.setCell ⟨g, 0, none⟩ u).setCell ⟨w0.heap.size + 1 + 1 + 1, 0, none⟩ (.int .i64 (k : Int))).setCell ⟨w0.heap.size + 1 + 1 + 1 + 1 + 1, 0, none⟩ (.int .i64 ((T : Int) + ((bk k).length : Int))))) := by
  have hW1 := (hW.kept (grown_below hb1) (fun r e => by cases e)).kept (grown_below hb2) (fun r e => by cases e)
  have hr1 := own_below (own_below hrow hb1) hb2
  have st := fun u => hW1.step hg u
  have hS : (T : Int) + ((bk k).length : Int) = (tot bk (k + 1) : Nat) := by rw [hTe]; omega
  have ti := fun u => (st u).2.2.2.2 _ hS
  refine ⟨hW1, ?_, hr1.frozenAt 0, fun u => (st u).1, fun u => (st u).2.1, fun u => by rw [← hT]; exact (st u).2.2.1, fun u => (st u).2.2.2.1, fun u => cells_of (ti u).x1 0, fun u => cells_of (ti u).x2 0, fun u => cells_free (ti u).x2 0, ti⟩
  rw [hr1.cellAt 0 (by omega)]
  simp [ints, List.getD, List.getElem?_eq_getElem hpos]
theorem told_keeps {W W0 W1 : World} (hb1 : Below W.heap.size W W0) (hb2 : Below W0.heap.size W0 W1) {a b c : Addr} {x : Value} (u v : Value) : KeepsOthers W (((W1.setCell a u).setCell b x).setCell c v) :=
  ((((KeepsOthers.of_grownBy (row := none) (grown_below hb1) (fun _ _ e => by cases e)).trans (KeepsOthers.of_grownBy (row := none) (grown_below hb2) (fun _ _ e => by cases e))).trans (KeepsOthers.setCell _ _ _)).trans (KeepsOthers.setCell _ _ _)).trans (KeepsOthers.setCell _ _ _)
theorem told_left {w0 W : World} {D : Nat} (h : TE w0 W) (hD : w0.heap.size + 6 ≤ D) (hd : W.heap[D]? = some (.deferred (some []))) : Below w0.heap.size w0 (W.putObj D (.deferred none)) ∧ W.heap[D]? = some (.deferred (some [])) ∧ (W.putObj D (.deferred none)).cell? ⟨w0.heap.size + 1 + 1, 0, none⟩ = some (.bool true) := by
  have := h.kept (grownBy_putObj' W D (.deferred none)) (fun r e => by have : D = r := Option.some.inj e; omega)
  exact ⟨this.1, hd, cells_of this.2 0⟩
theorem results_cell1 {fn : Func} {p : Tmp} {ty : TypeId} (h : fn.results = #[.cell p ty]) (tmps : Array Value) (P : Program) (w : World) :
    (results fn tmps).run P w = ((asAddr (tmps.getD p undef)).run P w).andThen fun a w₁ => ((loadVar ty a).run P w₁).andThen fun v w₂ => .ok v w₂ := by
  simp only [results, h]
  simp [Sem.run_bind, Result.andThen]
  split
  · split <;> assumption
  · rfl
theorem eq92 (lb : Array Value) (W : World) : (binOp .eql 92 (.func (.func 85) #[] lb) .nilFunc).run Try.prog W = .ok (.bool false) W := by
  rfl
def tAct (n0 : Nat) (p : Option Addr) (lv : Value) (upto : Int) (x y : Value) : Act := { tmps := #[.pointer p, lv, .int .i64 upto, undef, .pointer (some ⟨n0, 0, none⟩), .pointer (some ⟨n0 + 1, 0, none⟩), .pointer (some ⟨n0 + 1 + 1, 0, none⟩), .pointer (some ⟨n0 + 1 + 1 + 1, 0, none⟩), .func (.func 85) #[] #[.pointer (some ⟨n0 + 1 + 1 + 1 + 1, 0, none⟩)], .pointer (some ⟨n0 + 1 + 1 + 1 + 1 + 1, 0, none⟩), x, y, .pointer p, .func (.func 85) #[] #[.pointer (some ⟨n0 + 1 + 1 + 1 + 1, 0, none⟩)], .func (.func 85) #[] #[.pointer (some ⟨n0 + 1 + 1 + 1 + 1, 0, none⟩)], .bool false, .func (.func 85) #[] #[.pointer (some ⟨n0 + 1 + 1 + 1 + 1, 0, none⟩)], x, y, undef, undef, undef, undef, undef, undef, undef, undef, undef, undef, undef, undef, undef, undef, undef, undef, undef, undef, undef, undef, undef, undef, undef, undef, undef, undef, undef, undef, undef, undef, undef, undef, undef, undef], defers := [] }
set_option maxRecDepth 100000 in
set_option maxHeartbeats 8000000 in
theorem told_any (w : World) (p : Option Addr) (lv : Value) (upto : Int) (l : List (Int × Int)) (M : Nat) (bk : Int → List Int) (Mem : Nat → World → Prop) (hv : RItems w lv l) (hM : M ≤ 1024) (hbk : ∀ j, bucket l j = bk j) (htot : tot bk M = l.length)
    (hit : ∀ n, 1 ≤ n → IterOk Fence.wide n Try.prog 85 #[.pointer (some ⟨w.heap.size + 4, 0, none⟩)] M Mem (fun k => bk (k : Int) = []) (Hd (fun k => bk (k : Int)))) (hmem : ∀ k L A, TI w p lv upto bk k L A → Mem k A) :
    Calls Try.prog 59 #[.pointer p, lv, .int .i64 upto] w fun e w' => e = .returned (.bool true) ∧ Below w.heap.size w w' := by
  have HV := Lib.hid hv
  obtain ⟨la, lc, rfl, hll, _⟩ := hv
  have hbl : ∀ j, (bk j).length ≤ 1000 := fun j => by rw [← hbk j]; exact Nat.le_trans (bucket_len l j) hll
  have HBL := Lib.hid hbl
  have HBK := Lib.hid hbk
  have HTOT := Lib.hid htot
  have HIT := Lib.hid (hit 3 (by omega))
  have HMEM := Lib.hid hmem
  have h92 := eq92
  clear hbk hbl htot hit hmem
  refine (callsIn_wide (n := 4)).1 ?_
  refine callsIn_of_wp_marks Try.func59 rfl trivial ?_ rfl
  simp only [Try.ntmps59, List.size_toArray, List.length_cons, List.length_nil, Nat.reduceAdd, Nat.reduceSub, Array.replicate_succ, Array.replicate_zero, List.push_toArray, List.append_toArray, List.nil_append, List.cons_append]
  gi_wp2_with (refine ⟨trivial, ?_⟩; gi_at_call 78; refine (callsIn_wide.2 (each_maker _ _)).mono ?_; rintro e w1 ⟨rfl, rfl⟩)
  have hx : ∃ L, TI w p (.slice la l.length lc) upto bk 0 L ((((((w.alloc (.cells #[.slice la l.length lc] 59)).alloc (.cells #[.int .i64 upto] 3)).alloc (.cells #[.bool false] 4)).alloc (.cells #[.int .i64 (-1)] 3)).alloc (.cells #[.pointer p] 23)).alloc (.cells #[.int .i64 0] 3)) := ⟨-1, TI.start w p _ upto bk⟩
  have hsz : ((((((w.alloc (.cells #[.slice la l.length lc] 59)).alloc (.cells #[.int .i64 upto] 3)).alloc (.cells #[.bool false] 4)).alloc (.cells #[.int .i64 (-1)] 3)).alloc (.cells #[.pointer p] 23)).alloc (.cells #[.int .i64 0] 3)).heap.size = w.heap.size + 6 := by simp
  generalize ((((((w.alloc (.cells #[.slice la l.length lc] 59)).alloc (.cells #[.int .i64 upto] 3)).alloc (.cells #[.bool false] 4)).alloc (.cells #[.int .i64 (-1)] 3)).alloc (.cells #[.pointer p] 23)).alloc (.cells #[.int .i64 0] 3)) = w4 at hx hsz ⊢
  refine range_law rfl (by omega) (gf := 85) (lb := #[.pointer (some ⟨w.heap.size + 4, 0, none⟩)]) rfl trivial (enters_of Try.func85 (by kernel_rfl) rfl) (M := M)
    HIT.out (by rintro k xs h A ⟨g, cap, rfl, _⟩; rfl)
    (fun k A => ∃ L, TI w p (.slice la l.length lc) upto bk k L A) (fun c A => c = .ret ∧ TE w A) ?own ?ownx (fun k A ⟨L, h⟩ => HMEM.out k L A h) (fun k A ⟨L, h⟩ hn => ⟨L, h.skip hn⟩) ?hd hx
    (fun xs => tAct w.heap.size p (.slice la l.length lc) upto (xs.getD 0 undef) (xs.getD 1 undef)) ?assign ?body ?done ?stop
  case own =>
    rintro k A W row ⟨L, h⟩ hg hr
    exact ⟨L, h.kept hg (fun r e => by rw [← hsz]; exact (hr r e).1)⟩
  case ownx =>
    rintro c A W row ⟨rfl, h⟩ hg hr
    exact ⟨rfl, h.kept hg (fun r e => by rw [← hsz]; exact (hr r e).1)⟩
  case hd =>
    rintro k xs hh A W row ⟨g, cap, rfl, hne, hhg, hrow⟩ hg hr
    refine ⟨g, cap, rfl, hne, hhg, hrow.kept hg ?_⟩
    right
    intro e
    obtain ⟨cur, hc⟩ := row_cells hrow rfl
    obtain ⟨_, o, ho, hn⟩ := hr g e.symm
    rw [hc] at ho; cases ho; cases hn
  case assign =>
    rintro l' k xs hh W K ⟨g, cap, rfl, -⟩ hK
    clear hx HIT HBL HBK HTOT HMEM HV
    gi_wp2
    exact hK
  case body =>
    rintro l' k xs A W ⟨L, hA⟩ ⟨rr, hr⟩ hg hlw hk ⟨g, cap, rfl, hne, hAg, hrow⟩
    have hW : TI w p (.slice la l.length lc) upto bk k L W := hA.kept hg (fun r e => by have : l' = r := Option.some.inj e; omega)
    replace hrow : W.ownsRow 0 3 1 (.slice (some ⟨g, 0, none⟩) (bk k).length cap) (bk k).length (ints (bk k)) := hrow
    replace hne : bk k ≠ [] := hne
    show Code.wpIn _ _ _ _ _ (tAct w.heap.size p (.slice la l.length lc) upto (.int .i64 k) (.slice (some ⟨g, 0, none⟩) (bk k).length cap)) W
    unfold tAct
    have hA5 := lt_of_block hA.x5
    have hg6 : w.heap.size + 6 ≤ g := by omega
    have hpos : (0 : Int) < ((bk k).length : Int) := by have := List.length_pos_iff.2 hne; omega
    have hpz : (((bk k).length : Int) == 0) = false := by simp; omega
    have hlast := hW.last
    have hTb := tot_bound bk HBL.out k
    have hTe : tot bk (k + 1) = tot bk k + (bk k).length := rfl
    have hbk := HBL.out (k : Int)
    obtain ⟨T, hT⟩ : ∃ T : Nat, tot bk k = T := ⟨_, rfl⟩
    rw [hT] at hTb hTe
    have HT := Lib.hid hT
    have HTE := Lib.hid hTe
    have HW := Lib.hid hW
    have HROW := Lib.hid hrow
    have HVW := Lib.hid (HV.out.below hW.bel)
    have c0 : W.cell? ⟨w.heap.size, 0, none⟩ = some (.slice la l.length lc) := cells_of hW.x0 0
    have c3 : W.cell? ⟨w.heap.size + 1 + 1 + 1, 0, none⟩ = some (.int .i64 L) := cells_of hW.x3 0
    have HBK1 := Lib.hid (HBK.out (k : Int))
    have hne' : 0 < (bk k).length := List.length_pos_iff.2 hne
    clear hx hr hg hA hW hrow hne hT hTe HMEM HIT HTOT HBK hAg
    gi_wp2_with (first
      | (refine ⟨trivial, ?_⟩; gi_at_call 57; refine (CallsIn.inRound l' (callsIn_wide.2 (findR_any _ l k W HVW.out))).mono ?_; rintro e W0 ⟨v1, rfl, hv1, hb1⟩; replace hv1 := Lib.hid (RInts.of_row hv1 (Nat.le_trans (bucket_len l k) hll)); have hb1' := Lib.hid hb1)
      | (refine ⟨trivial, ?_⟩; gi_at_call 55; refine (CallsIn.inRound l' (callsIn_wide.2 (ints_same _ v1 (bk k) (bucket l k) W0 HBK1.out.symm (RInts.of_row (own_below HROW.out hb1'.out) hbk) hv1.out))).mono ?_; rintro e W1 ⟨rfl, hb2⟩; obtain ⟨hW1, cg, fg, q1, q2, q3, q4, q5, q6, q7, hst⟩ := told_facts HW.out HROW.out hne' hb1'.out hb2 hg6 HT.out HTE.out; replace hW1 := Lib.hid hW1; have HST := Lib.hid hst; have HB2 := Lib.hid hb2; clear hst hb2))
    · exact ⟨((told_keeps hb1'.out HB2.out _ _).trans (KeepsOthers.setCell _ _ _)).from _, rfl, (HST.out _).left⟩
    · exact ⟨(told_keeps hb1'.out HB2.out _ _).from _, _, HST.out _⟩
  case done =>
    rintro D W hD ⟨L, hW⟩ hd
    have hx5 := hW.x5
    rw [HTOT.out] at hx5
    have c5 : W.cell? ⟨w.heap.size + 1 + 1 + 1 + 1 + 1, 0, none⟩ = some (.int .i64 (l.length : Int)) := cells_of hx5 0
    have c0 : W.cell? ⟨w.heap.size, 0, none⟩ = some (.slice la l.length lc) := cells_of hW.x0 0
    have c2 : W.cell? ⟨w.heap.size + 1 + 1, 0, none⟩ = some (.bool false) := cells_of hW.x2 0
    have f2 : W.frozen? ⟨w.heap.size + 1 + 1, 0, none⟩ = false := cells_free hW.x2 0
    obtain ⟨hTE, hd', ce⟩ := told_left hW.left (by omega) (((gset W (w.heap.size + 1 + 1) 0 (.bool true)).block D (lt_of_block hd) (fun e => by have : D = w.heap.size + 1 + 1 := Option.some.inj e; omega)).trans hd)
    have HTE := Lib.hid hTE
    have HD := Lib.hid hd'
    clear hx HIT HBL HBK HTOT HMEM HV hx5 hW hd hTE hd'
    gi_wp2
    refine ⟨by simp, .inl ⟨_, _, rfl, run_takeDeferred HD.out, ?_⟩⟩
    refine ⟨.bool true, ?_, rfl, HTE.out⟩
    rw [results_cell1 rfl]
    go_simp
  case stop =>
    rintro D c W hD ⟨rfl, hT⟩ hd
    clear hx HIT HBL HBK HTOT HMEM HV
    obtain ⟨hTE, hd', ce⟩ := told_left hT (by omega) hd
    have HTE := Lib.hid hTE
    have HD := Lib.hid hd'
    clear hT hd hTE hd'
    gi_wp2
    refine ⟨by simp, .inl ⟨_, _, rfl, run_takeDeferred HD.out, ?_⟩⟩
    refine ⟨.bool true, ?_, rfl, HTE.out⟩
    rw [results_cell1 rfl]
    go_simp
end Go.Proofs.Ytigdibglkejciaa.Buck
