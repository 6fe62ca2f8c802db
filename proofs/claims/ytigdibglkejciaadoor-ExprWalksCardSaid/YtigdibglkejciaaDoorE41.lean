/-
  The law on walks: its outer loop.
-/
import Derived.Test.YtigdibglkejciaaDoorE38
namespace Go.Proofs.YtigdibglkejciaaDoor.Ex
open Go.RowKit Go
set_option linter.unusedSimpArgs false
attribute [local go_sem] Oper.semAt_some

theorem eqL_refl {α : Type} (f : α → α → Bool) : ∀ l : List α, (∀ x ∈ l, f x x = true) → eqL f l l = true
  | [], _ => rfl
  | x :: l, h => by simp only [eqL]; rw [h x (by simp), eqL_refl f l (fun y hy => h y (by simp [hy]))]; rfl
theorem sameE_refl : ∀ (n : Nat) (x : Ex n), sameE n x x = true
  | 0, x => x.elim
  | n + 1, x => by
    rw [sameE_succ, eqL_refl strEq _ (fun s _ => by simp [strEq]), eqL_refl (sameQ n) _ (fun p _ => by simp [sameQ, strEq, sameE_refl n p.2]), eqL_refl (sameE n) _ (fun y _ => sameE_refl n y)]
    simp [sameP, strEq]
/-- Two rounds, then the loop is left. -/
theorem loop_two {F : Fence} {n : Nat} {P : Program} {c : Code} {Q : Exit → Act → World → Prop} {a : Act} {w : World} (I : Nat → Act → World → Prop) (h0 : I 0 a w) (hr : ∀ i a w, i < 2 → I i a w → c.wpIn F n P (Exit.then (I (i + 1)) Q) a w) (hl : ∀ a w, I 2 a w → c.wpIn F n P (Exit.then (fun _ _ => False) Q) a w) : (Code.loop c).wpIn F n P Q a w := by
  refine wpIn_loop_rounds 3 ?_
  rw [roundsIn_succ]
  refine wpIn_mono (hr 0 a w (by omega) h0) ?_
  rintro e a1 w1 h1
  cases e with
  | normal =>
    show Code.roundsIn F n P c Q 2 a1 w1
    rw [roundsIn_succ]
    refine wpIn_mono (hr 1 a1 w1 (by omega) h1) ?_
    rintro e a2 w2 h2
    cases e with
    | normal =>
      show Code.roundsIn F n P c Q 1 a2 w2
      rw [roundsIn_succ]
      refine wpIn_mono (hl a2 w2 h2) ?_
      rintro e a3 w3 h3
      cases e with
      | normal => exact h3.elim
      | ret => exact h3
      | exit id => exact h3
      | goto t => exact h3
      | panic ch => exact h3
      | outgrown => exact h3
    | ret => exact h2
    | exit id => exact h2
    | goto t => exact h2
    | panic ch => exact h2
    | outgrown => exact h2
  | ret => exact h1
  | exit id => exact h1
  | goto t => exact h1
  | panic ch => exact h1
  | outgrown => exact h1
/-- What lies where when a round begins. -/
structure RW (w : World) (X : Array Value) (full : List AE) (m : Int) (b1 b2 b3 bt gw cw : Nat) (W : World) : Prop where
  bel : Below w.heap.size w W
  t : W.heap[bt]? = some (.cells X 26 (0, 0))
  y1 : W.heap[b1]? = some (.cells #[.int .u8 m] 5 (0, 0))
  y2 : W.heap[b2]? = some (.cells #[.bool false] 4 (0, 0))
  y3 : W.heap[b3]? = some (.cells #[.slice (some ⟨gw, 0, none⟩) full.length cw] 24 (0, 0))
  lw : gw < W.heap.size
  want : ∀ i (h : i < full.length), ∃ u, EAt W gw (i * 7) u ∧ ExIn w w.heap.size full[i].1 u full[i].2
  o1 : w.heap.size ≤ b1 ∧ w.heap.size ≤ b2 ∧ w.heap.size ≤ b3
theorem RW.below {w : World} {X : Array Value} {full : List AE} {m : Int} {b1 b2 b3 bt gw cw : Nat} {W W' : World} (h : RW w X full m b1 b2 b3 bt gw cw W) (hb : Below W.heap.size W W') : RW w X full m b1 b2 b3 bt gw cw W' where
  bel := h.bel.trans (hb.mono h.bel.size)
  t := (hb.block _ (lt_of_block h.t)).trans h.t
  y1 := (hb.block _ (lt_of_block h.y1)).trans h.y1
  y2 := (hb.block _ (lt_of_block h.y2)).trans h.y2
  y3 := (hb.block _ (lt_of_block h.y3)).trans h.y3
  lw := Nat.lt_of_lt_of_le h.lw hb.size
  want := fun i hi => by obtain ⟨u, h1, h2⟩ := h.want i hi; exact ⟨u, h1.kept (fun o => hb.cell (p := ⟨gw, o, none⟩) h.lw), h2⟩
  o1 := h.o1
/-- The marks of the loops that are over. -/
def DefOk (w : World) (Ds : List Nat) (W : World) : Prop := (∀ D ∈ Ds, w.heap.size ≤ D ∧ W.heap[D]? = some (.deferred (some []))) ∧ Ds.Nodup
theorem DefOk.below {w W W' : World} {Ds : List Nat} (h : DefOk w Ds W) (hb : Below W.heap.size W W') : DefOk w Ds W' :=
  ⟨fun D hD => ⟨(h.1 D hD).1, (hb.block _ (lt_of_block (h.1 D hD).2)).trans (h.1 D hD).2⟩, h.2⟩
theorem DefOk.cons {w W : World} {Ds : List Nat} {D : Nat} (h : DefOk w Ds W) (hD : w.heap.size ≤ D) (hd : W.heap[D]? = some (.deferred (some []))) (hn : D ∉ Ds) : DefOk w (D :: Ds) W :=
  ⟨fun E hE => by
    rcases List.mem_cons.1 hE with rfl | hE
    · exact ⟨hD, hd⟩
    · exact h.1 E hE, List.nodup_cons.2 ⟨hn, h.2⟩⟩
def col (D : Nat) : Deferred := { target := .collected D, args := #[] }
/-- Between two rounds of the inner loop. -/
def WI (w4 : World) (m : Int) (i k : Nat) (A : World) : Prop := Below w4.heap.size w4 A ∧ A.heap[w4.heap.size]? = some (.cells #[.int .i64 (k : Nat)] 3 (0, 0)) ∧ (i = 0 → (k : Int) ≤ m)
theorem WI.kept {w4 : World} {m : Int} {i k : Nat} {A Y : World} {row : Option Nat} (h : WI w4 m i k A) (hg : A.grownBy Y row) (hr : ∀ r, row = some r → w4.heap.size < r) : WI w4 m i k Y :=
  ⟨h.1.grown hg h.1.size (fun r e => by have := hr r e; omega), (hg.block _ (lt_of_block h.2.1) (fun e => by have := hr _ e.symm; omega)).trans h.2.1, h.2.2⟩
/-- The inner loop was left early. -/
def WX (w4 : World) (m : Int) (i : Nat) (c : Code) (A : World) : Prop := c = .exit 2 ∧ i = 0 ∧ Below w4.heap.size w4 A ∧ A.heap[w4.heap.size]? = some (.cells #[.int .i64 (m + 1)] 3 (0, 0))
/-- The frame's slots. -/
def T3 (v : V7) (m : Int) (b0 b1 b2 b3 bt tb : Nat) (us : Nat → Value) : Array Value := #[.agg #[.int .i64 v.op, .int .i64 v.num, .string v.tx, .slice v.pa v.pl v.pc, .slice v.qa v.ql v.qc, .bool v.opn, .slice v.ka v.kl v.kc], .int .u8 m, .pointer (some ⟨b0, 0, none⟩), .pointer (some ⟨b1, 0, none⟩), .pointer (some ⟨b2, 0, none⟩), .pointer (some ⟨b3, 0, none⟩), .func (.func 28) #[] #[.pointer (some ⟨bt, 0, none⟩)], .pointer (some ⟨tb, 0, none⟩), us 8, us 9, us 10, us 11, us 12, us 13, us 14, us 15, us 16, us 17, us 18, us 19, us 20, us 21, us 22, us 23, us 24, us 25, us 26, us 27, us 28, us 29, us 30, us 31, us 32, us 33, us 34, us 35, us 36, us 37, us 38, us 39, us 40, us 41, us 42, us 43, us 44, us 45, us 46, us 47, us 48, us 49, us 50, us 51, us 52, us 53, us 54, us 55, us 56, us 57, us 58, us 59, us 60, us 61, us 62, us 63, us 64, undef, undef, undef, undef, undef, undef, undef, undef]
/-- When round i of the outer loop begins. -/
def OI (w : World) (v : V7) (m : Int) (b0 : Nat) (full : List AE) (b1 b2 b3 bt gw cw : Nat) (i : Nat) (a : Act) (W : World) : Prop :=
  ∃ (tb : Nat) (Ds : List Nat) (us : Nat → Value), a = { tmps := T3 v m b0 b1 b2 b3 bt tb us, defers := Ds.map col } ∧ Ds.length = i ∧ DefOk w Ds W ∧ RW w #[.int .i64 v.op, .int .i64 v.num, .string v.tx, .slice v.pa v.pl v.pc, .slice v.qa v.ql v.qc, .bool v.opn, .slice v.ka v.kl v.kc] full m b1 b2 b3 bt gw cw W ∧ W.heap[b0]? = some (.cells #[.int .i64 v.op, .int .i64 v.num, .string v.tx, .slice v.pa v.pl v.pc, .slice v.qa v.ql v.qc, .bool v.opn, .slice v.ka v.kl v.kc] 26 (0, 0)) ∧ W.heap[tb]? = some (.cells #[.int .i64 (i : Nat)] 3 (0, 0))
theorem OI.mk {w : World} {v : V7} {m : Int} {b0 : Nat} {full : List AE} {b1 b2 b3 bt gw cw i : Nat} {a : Act} {W : World} (tb : Nat) (Ds : List Nat) (h : a = { tmps := T3 v m b0 b1 b2 b3 bt tb (fun k => a.tmps.getD k undef), defers := Ds.map col }) (hl : Ds.length = i) (hD : DefOk w Ds W) (hR : RW w #[.int .i64 v.op, .int .i64 v.num, .string v.tx, .slice v.pa v.pl v.pc, .slice v.qa v.ql v.qc, .bool v.opn, .slice v.ka v.kl v.kc] full m b1 b2 b3 bt gw cw W) (h0 : W.heap[b0]? = some (.cells #[.int .i64 v.op, .int .i64 v.num, .string v.tx, .slice v.pa v.pl v.pc, .slice v.qa v.ql v.qc, .bool v.opn, .slice v.ka v.kl v.kc] 26 (0, 0))) (hT : W.heap[tb]? = some (.cells #[.int .i64 (i : Nat)] 3 (0, 0))) : OI w v m b0 full b1 b2 b3 bt gw cw i a W :=
  ⟨tb, Ds, _, h, hl, hD, hR, h0, hT⟩
theorem not_f {b : Bool} (h : (!b) = false) : b = true := by simpa using h
theorem not_f2 {b : Bool} (h : ¬ (!b) = true) : b = true := by simpa using h
theorem results_cell1 {fn : Func} {p : Tmp} {ty : TypeId} (h : fn.results = #[.cell p ty]) (tmps : Array Value) (P : Program) (w : World) :
    (results fn tmps).run P w = ((asAddr (tmps.getD p undef)).run P w).andThen fun a w₁ => ((loadVar ty a).run P w₁).andThen fun v w₂ => .ok v w₂ := by
  simp only [results, h]
  simp [Sem.run_bind, Result.andThen]
  split
  · split <;> assumption
  · rfl
/-- The names read, both sides. -/
def RefsPost2 (n : Nat) (x : Ex n) (w : World) (v : V7) : Prop := ∀ W, Below w.heap.size w W → Calls Tryd.prog 12 #[.agg #[.int .i64 v.op, .int .i64 v.num, .string v.tx, .slice v.pa v.pl v.pc, .slice v.qa v.ql v.qc, .bool v.opn, .slice v.ka v.kl v.kc]] W (RefsPost (allE n x) W) ∧ Calls Tryd.prog 13 #[.agg #[.int .i64 v.op, .int .i64 v.num, .string v.tx, .slice v.pa v.pl v.pc, .slice v.qa v.ql v.qc, .bool v.opn, .slice v.ka v.kl v.kc]] W (RefsPost (allE n x) W)
theorem refs_both (n : Nat) (x : Ex n) (w : World) (v : V7) (hx : ExIn w w.heap.size n v x) (h : SmallE n 24 x ∧ cnt n x ≤ 200) : RefsPost2 n x w v := fun W hW =>
  have hu : ExIn W W.heap.size n v x := ExIn.mono hW.size n _ _ (ExIn.kept hW n _ _ hx)
  ⟨refs_any n W v x 24 h.1 h.2 hu, refsR_any n W v x 24 h.1 h.2 hu⟩
/-- The next round's box. -/
theorem next_box {w W W2 : World} {X : Array Value} {full : List AE} {m : Int} {b0 b1 b2 b3 bt gw cw D : Nat} {Ds : List Nat} {o : Obj} (hb : Below W.heap.size W W2) (hd : W2.heap[D]? = some (.deferred (some []))) (hDef : DefOk w Ds W) (hR : RW w X full m b1 b2 b3 bt gw cw W) (h0 : W.heap[b0]? = some o) (hD : W.heap.size ≤ D) (k : Int) :
    DefOk w (D :: Ds) (W2.alloc (.cells #[.int .i64 k] 3)) ∧ RW w X full m b1 b2 b3 bt gw cw (W2.alloc (.cells #[.int .i64 k] 3)) ∧ (W2.alloc (.cells #[.int .i64 k] 3)).heap[b0]? = some o ∧ (W2.alloc (.cells #[.int .i64 k] 3)).heap[W2.heap.size]? = some (.cells #[.int .i64 k] 3 (0, 0)) := by
  have hbn := bel1 W2 (.cells #[.int .i64 k] 3)
  have hbb := hb.trans (hbn.mono hb.size)
  refine ⟨(hDef.below hbb).cons (by have := hR.bel.size; omega) ((hbn.block _ (lt_of_block hd)).trans hd) (fun h => ?_), hR.below hbb, (hbb.block _ (lt_of_block h0)).trans h0, new_cells _ _ _⟩
  have := lt_of_block (hDef.1 D h).2
  omega
/-- What the last region reads. -/
abbrev SP (w W0 : World) (b0 b2 : Nat) (X : Array Value) (W : World) : Prop := (∀ o, W.cell? ⟨b0, o, none⟩ = X[o]?) ∧ W.frozen? ⟨b2, 0, none⟩ = false ∧ Below w.heap.size w W ∧ W0.heap.size ≤ W.heap.size
theorem SP.below {w W0 : World} {b0 b2 : Nat} {X : Array Value} {W W' : World} (h : SP w W0 b0 b2 X W) (hb : Below W.heap.size W W') (h0 : b0 < W0.heap.size) (h2 : b2 < W0.heap.size) : SP w W0 b0 b2 X W' :=
  ⟨fun o => (hb.cell (p := ⟨b0, o, none⟩) (by have := h.2.2.2; show b0 < _; omega)).trans (h.1 o), (hb.frozen (p := ⟨b2, 0, none⟩) (by have := h.2.2.2; show b2 < _; omega)).trans h.2.1, h.2.2.1.trans (hb.mono h.2.2.1.size), Nat.le_trans h.2.2.2 hb.size⟩
theorem SP.set {w W0 : World} {b0 b2 : Nat} {X : Array Value} {W : World} (h : SP w W0 b0 b2 X W) (hn : b0 ≠ b2) (hw : w.heap.size ≤ b2) (h0 : b0 < W0.heap.size) {u : Value} : SP w W0 b0 b2 X (W.setCell ⟨b2, 0, none⟩ u) :=
  ⟨fun o => ((gset W b2 0 u).cell_far ⟨b0, o, none⟩ (by have := h.2.2.2; show b0 < _; omega) (fun e => hn (Option.some.inj e))).trans (h.1 o), by rw [World.frozen?_setCell]; exact h.2.1, h.2.2.1.setCell (p := ⟨b2, 0, none⟩) hw _, Nat.le_trans h.2.2.2 (gset W b2 0 u).size⟩
/-- Two marks are taken over. -/
theorem marks_two {P : Program} {w wz : World} {D2 D1 b : Nat} {u : Value} {T : TypeId} (dd : ∀ D ∈ [D2, D1], w.heap.size ≤ D ∧ D ≠ b ∧ wz.heap[D]? = some (.deferred (some []))) (hne : D2 ≠ D1) (zS : wz.heap[b]? = some (.cells #[u] T (0, 0))) (hb : Below w.heap.size w wz) :
    (Instr.takeDeferred D2).run P wz = .ok [] (wz.putObj D2 (.deferred none)) ∧ (Instr.takeDeferred D1).run P (wz.putObj D2 (.deferred none)) = .ok [] ((wz.putObj D2 (.deferred none)).putObj D1 (.deferred none)) ∧
    (∀ o, ((wz.putObj D2 (.deferred none)).putObj D1 (.deferred none)).cell? ⟨b, o, none⟩ = #[u][o]?) ∧ Below w.heap.size w ((wz.putObj D2 (.deferred none)).putObj D1 (.deferred none)) := by
  obtain ⟨l2, n2, e2⟩ := dd D2 (by simp)
  obtain ⟨l1, n1, e1⟩ := dd D1 (by simp)
  have f1 : (wz.putObj D2 (.deferred none)).heap[D1]? = some (.deferred (some [])) := (World.putObj_heap_other (fun e => hne (by rw [e]))).trans e1
  have z2 : (wz.putObj D2 (.deferred none)).heap[b]? = some (.cells #[u] T (0, 0)) := (World.putObj_heap_other (fun e => n2 (by rw [e]))).trans zS
  have z3 : ((wz.putObj D2 (.deferred none)).putObj D1 (.deferred none)).heap[b]? = some (.cells #[u] T (0, 0)) := (World.putObj_heap_other (fun e => n1 (by rw [e]))).trans z2
  refine ⟨run_takeDeferred e2, run_takeDeferred f1, cells_of z3, ?_⟩
  have h2 := hb.grown (grownBy_putObj' wz D2 (.deferred none)) hb.size (fun k e => by cases e; exact l2)
  exact h2.grown (grownBy_putObj' _ D1 (.deferred none)) h2.size (fun k e => by cases e; exact l1)
theorem eq31 (lb : Array Value) (W : World) : (binOp .eql 31 (.func (.func 28) #[] lb) .nilFunc).run Tryd.prog W = .ok (.bool false) W := by
  rfl
set_option maxRecDepth 100000 in
set_option maxHeartbeats 16000000 in
theorem walks_walk (n : Nat) (w : World) (hW : Words w) (v : V7) (x : Ex n) (m : Int) (hm : 0 ≤ m ∧ m ≤ 255) (hx : ExIn w w.heap.size n v x) : Calls Tryd.prog 3 #[.agg #[.int .i64 v.op, .int .i64 v.num, .string v.tx, .slice v.pa v.pl v.pc, .slice v.qa v.ql v.qc, .bool v.opn, .slice v.ka v.kl v.kc], .int .u8 m] w fun e w' => e = .returned (.bool true) ∧ Below w.heap.size w w' := by
  have hp0 := hW.pos
  have hb1 : Below w.heap.size w (((w.alloc (.cells #[.int .i64 v.op, .int .i64 v.num, .string v.tx, .slice v.pa v.pl v.pc, .slice v.qa v.ql v.qc, .bool v.opn, .slice v.ka v.kl v.kc] 26)).alloc (.cells #[.int .u8 m] 5)).alloc (.cells #[.bool false] 4)) := (bel1 _ _).trans (((bel1 _ _).trans ((bel1 _ _).mono (by simp))).mono (by simp))
  have n0 : (((w.alloc (.cells #[.int .i64 v.op, .int .i64 v.num, .string v.tx, .slice v.pa v.pl v.pc, .slice v.qa v.ql v.qc, .bool v.opn, .slice v.ka v.kl v.kc] 26)).alloc (.cells #[.int .u8 m] 5)).alloc (.cells #[.bool false] 4)).heap[w.heap.size]? = some (.cells #[.int .i64 v.op, .int .i64 v.num, .string v.tx, .slice v.pa v.pl v.pc, .slice v.qa v.ql v.qc, .bool v.opn, .slice v.ka v.kl v.kc] 26 (0, 0)) := (Below.heap_alloc _ _ _ (by simp; omega)).trans ((Below.heap_alloc _ _ _ (by simp)).trans (new_cells w #[.int .i64 v.op, .int .i64 v.num, .string v.tx, .slice v.pa v.pl v.pc, .slice v.qa v.ql v.qc, .bool v.opn, .slice v.ka v.kl v.kc] 26))
  have n1 : (((w.alloc (.cells #[.int .i64 v.op, .int .i64 v.num, .string v.tx, .slice v.pa v.pl v.pc, .slice v.qa v.ql v.qc, .bool v.opn, .slice v.ka v.kl v.kc] 26)).alloc (.cells #[.int .u8 m] 5)).alloc (.cells #[.bool false] 4)).heap[w.heap.size + 1]? = some (.cells #[.int .u8 m] 5 (0, 0)) := by
    have h := new_cells (w.alloc (.cells #[.int .i64 v.op, .int .i64 v.num, .string v.tx, .slice v.pa v.pl v.pc, .slice v.qa v.ql v.qc, .bool v.opn, .slice v.ka v.kl v.kc] 26)) #[.int .u8 m] 5
    rw [World.size_alloc] at h
    exact (Below.heap_alloc _ _ _ (by simp)).trans h
  have n2 : (((w.alloc (.cells #[.int .i64 v.op, .int .i64 v.num, .string v.tx, .slice v.pa v.pl v.pc, .slice v.qa v.ql v.qc, .bool v.opn, .slice v.ka v.kl v.kc] 26)).alloc (.cells #[.int .u8 m] 5)).alloc (.cells #[.bool false] 4)).heap[w.heap.size + 1 + 1]? = some (.cells #[.bool false] 4 (0, 0)) := by
    have h := new_cells ((w.alloc (.cells #[.int .i64 v.op, .int .i64 v.num, .string v.tx, .slice v.pa v.pl v.pc, .slice v.qa v.ql v.qc, .bool v.opn, .slice v.ka v.kl v.kc] 26)).alloc (.cells #[.int .u8 m] 5)) #[.bool false] 4
    rw [World.size_alloc, World.size_alloc] at h
    exact h
  have hz1 : (((w.alloc (.cells #[.int .i64 v.op, .int .i64 v.num, .string v.tx, .slice v.pa v.pl v.pc, .slice v.qa v.ql v.qc, .bool v.opn, .slice v.ka v.kl v.kc] 26)).alloc (.cells #[.int .u8 m] 5)).alloc (.cells #[.bool false] 4)).heap.size = w.heap.size + 1 + 1 + 1 := by simp
  obtain ⟨w1, hw1⟩ : ∃ w1, ((w.alloc (.cells #[.int .i64 v.op, .int .i64 v.num, .string v.tx, .slice v.pa v.pl v.pc, .slice v.qa v.ql v.qc, .bool v.opn, .slice v.ka v.kl v.kc] 26)).alloc (.cells #[.int .u8 m] 5)).alloc (.cells #[.bool false] 4) = w1 := ⟨_, rfl⟩
  rw [hw1] at hb1 n0 n1 n2 hz1
  have HW1 := Lib.hid hw1
  have HF1 : Hid (Calls Tryd.prog 6 #[.agg #[.int .i64 v.op, .int .i64 v.num, .string v.tx, .slice v.pa v.pl v.pc, .slice v.qa v.ql v.qc, .bool v.opn, .slice v.ka v.kl v.kc]] (((w.alloc (.cells #[.int .i64 v.op, .int .i64 v.num, .string v.tx, .slice v.pa v.pl v.pc, .slice v.qa v.ql v.qc, .bool v.opn, .slice v.ka v.kl v.kc] 26)).alloc (.cells #[.int .u8 m] 5)).alloc (.cells #[.bool false] 4)) (FewPost n x (((w.alloc (.cells #[.int .i64 v.op, .int .i64 v.num, .string v.tx, .slice v.pa v.pl v.pc, .slice v.qa v.ql v.qc, .bool v.opn, .slice v.ka v.kl v.kc] 26)).alloc (.cells #[.int .u8 m] 5)).alloc (.cells #[.bool false] 4)))) := by
    rw [hw1]; exact Lib.hid (few_any n w1 w.heap.size v x hb1.size (ExIn.kept hb1 n _ _ hx))
  have HAW : Hid (∀ W, Below w.heap.size w W → Calls Tryd.prog 7 #[] W fun e w' => e = .returned (.bool true) ∧ Below W.heap.size W w') := Lib.hid (fun W h => awake_any W (hW.below h hp0))
  have HALL : Hid (SmallE n 24 x → cnt n x ≤ 200 → ∀ W, Below w.heap.size w W → Calls Tryd.prog 8 #[.agg #[.int .i64 v.op, .int .i64 v.num, .string v.tx, .slice v.pa v.pl v.pc, .slice v.qa v.ql v.qc, .bool v.opn, .slice v.ka v.kl v.kc]] W (AllPost (allE n x) w.heap.size W)) := Lib.hid (fun h1 h2 W h => all_ok n W w.heap.size v x 24 h.size h1 h2 (ExIn.kept h n _ _ hx))
  have HX := Lib.hid hx
  have HN := Lib.hid (And.intro n0 (And.intro n1 (And.intro n2 hb1)))
  have h31 := eq31
  have hl0 : w.heap.size < w1.heap.size := by omega
  have hl1 : w.heap.size + 1 < w1.heap.size := by omega
  have hl2 : w.heap.size + 1 + 1 < w1.heap.size := by omega
  clear hx hW n0 n1 n2 hw1 hz1
  refine (callsIn_wide (n := 4)).1 ?_
  refine callsIn_of_wp_marks Tryd.func3 rfl trivial ?_ rfl
  simp only [Tryd.ntmps3, List.size_toArray, List.length_cons, List.length_nil, Nat.reduceAdd, Nat.reduceSub, Array.replicate_succ, Array.replicate_zero, List.push_toArray, List.append_toArray, List.nil_append, List.cons_append]
  gi_wp2_with (first
    | (refine ⟨trivial, ?_⟩; gi_at_call 6; refine (callsIn_wide.2 HF1.out).mono ?_; rintro e w2 ⟨f1, rfl, hf1, hb2⟩; rw [HW1.out] at hb2; have HG1 := Lib.hid hf1; clear hf1; have HB2 := Lib.hid hb2; have z0 := (hb2.block _ hl0).trans HN.out.1; have z1 := (hb2.block _ hl1).trans HN.out.2.1; have z2 := (hb2.block _ hl2).trans HN.out.2.2.1; have c0 := cells_of z0; have c2 := cells_of z2 0; have g2 := cells_free z2 0; have hs2 := hb2.size; have Z := Lib.hid (And.intro z0 (And.intro z1 z2)); clear hb2 z0 z1 z2))
  · gi_wp2_with (refine ⟨trivial, ?_⟩; gi_at_call 7; refine (callsIn_wide.2 (HAW.out _ (HN.out.2.2.2.trans (HB2.out.mono HN.out.2.2.2.size)))).mono ?_; rintro e w3 ⟨rfl, hb3⟩; have HB3 := Lib.hid hb3; have c3 := (hb3.cell (p := ⟨w.heap.size + 1 + 1, 0, none⟩) (by show w.heap.size + 1 + 1 < _; omega)).trans c2; have g3 := (hb3.frozen (p := ⟨w.heap.size + 1 + 1, 0, none⟩) (by show w.heap.size + 1 + 1 < _; omega)).trans g2; have z3 := Lib.hid ((hb3.block _ (lt_of_block Z.out.2.2)).trans Z.out.2.2); clear hb3)
    have y3 := set_same (y := .bool true) z3.out
    have c4 := cells_of y3 0
    refine ⟨.bool true, ?_, rfl, ?_⟩
    · rw [results_cell1 rfl]
      go_simp
    · exact (HN.out.2.2.2.trans ((HB2.out.trans (HB3.out.mono (by omega))).mono HN.out.2.2.2.size)).setCell (p := ⟨w.heap.size + 1 + 1, 0, none⟩) (by show w.heap.size ≤ w.heap.size + 1 + 1; omega) _
  · have hG := HG1.out (by first | assumption | exact not_f (by assumption) | exact not_f2 (by assumption))
    have HA2 := Lib.hid (HALL.out hG.1 hG.2 w2 (HN.out.2.2.2.trans (HB2.out.mono HN.out.2.2.2.size)))
    have hM : (allE n x).length ≤ 200 := Nat.le_trans (all_le n x) hG.2
    have HIT : Hid (∀ bt, IterW Fence.wide 3 Tryd.prog 28 #[.pointer (some ⟨bt, 0, none⟩)] (allE n x).length (fun W => W.heap[bt]? = some (.cells #[.int .i64 v.op, .int .i64 v.num, .string v.tx, .slice v.pa v.pl v.pc, .slice v.qa v.ql v.qc, .bool v.opn, .slice v.ka v.kl v.kc] 26 (0, 0)) ∧ w.heap.size ≤ W.heap.size ∧ Below w.heap.size w W) (K26 w.heap.size) (Told w w.heap.size (allE n x))) := Lib.hid (fun bt => iter_ok n x v 24 w w.heap.size hG.1 HX.out bt 3 (by omega))
    have hpos := all_pos n x
    clear hG
    gi_wp2_with (first
      | (refine ⟨trivial, ?_⟩; gi_at_call 8; refine (callsIn_wide.2 HA2.out).mono ?_; rintro e w3 ⟨aw, cw, rfl, hA3, hb3⟩; have HB3 := Lib.hid hb3; obtain ⟨gw, rfl, hg0, hg1, hat⟩ := hA3.at hpos; have HAT := Lib.hid hat; clear hA3 hat; have c3 : ∀ o, w3.cell? ⟨w.heap.size, o, none⟩ = #[.int .i64 v.op, .int .i64 v.num, .string v.tx, .slice v.pa v.pl v.pc, .slice v.qa v.ql v.qc, .bool v.opn, .slice v.ka v.kl v.kc][o]? := fun o => (hb3.cell (p := ⟨w.heap.size, o, none⟩) (by show w.heap.size < _; omega)).trans (c0 o); have hs3 := hb3.size; have hq0 : w.heap.size < w3.heap.size := (by omega); clear hb3)
      | (refine ⟨trivial, ?_⟩; gi_at_call 9; refine (callsIn_wide.2 (walk_maker v _)).mono ?_; rintro e w4 ⟨rfl, rfl⟩))
    have hbe : Below w.heap.size w w3 := HN.out.2.2.2.trans ((HB2.out.trans (HB3.out.mono (by omega))).mono HN.out.2.2.2.size)
    have hWant : ∀ i (h : i < (allE n x).length), ∃ u, EAt w3 gw (i * 7) u ∧ ExIn w w.heap.size (allE n x)[i].1 u (allE n x)[i].2 := fun i hi => by
      obtain ⟨u, h1, h2⟩ := HAT.out i hi
      exact ⟨u, h1, ExIn.cells (fun g o hg => (hbe.cell (p := ⟨g, o, none⟩) hg).symm) _ _ _ h2⟩
    have k0 := (HB3.out.block _ (by omega)).trans Z.out.1
    have k1 := (HB3.out.block _ (by omega)).trans Z.out.2.1
    have k2 := (HB3.out.block _ (by omega)).trans Z.out.2.2
    have hq1 : w.heap.size ≤ w3.heap.size := by omega
    have HREF : Hid (∀ W, Below w.heap.size w W → Calls Tryd.prog 12 #[.agg #[.int .i64 v.op, .int .i64 v.num, .string v.tx, .slice v.pa v.pl v.pc, .slice v.qa v.ql v.qc, .bool v.opn, .slice v.ka v.kl v.kc]] W (RefsPost (allE n x) W) ∧ Calls Tryd.prog 13 #[.agg #[.int .i64 v.op, .int .i64 v.num, .string v.tx, .slice v.pa v.pl v.pc, .slice v.qa v.ql v.qc, .bool v.opn, .slice v.ka v.kl v.kc]] W (RefsPost (allE n x) W)) := Lib.hid (refs_both n x w v HX.out (HG1.out (by first | assumption | exact not_f (by assumption) | exact not_f2 (by assumption))))
    clear c0 c2 g2 HF1 HALL HA2 HAT HG1 HX HN HB2 HB3 Z HW1 hl0 hl1 hl2 hs2 hs3 c3 hb1
    generalize allE n x = full at HIT hM hpos hWant HREF ⊢
    have hst : RW w #[.int .i64 v.op, .int .i64 v.num, .string v.tx, .slice v.pa v.pl v.pc, .slice v.qa v.ql v.qc, .bool v.opn, .slice v.ka v.kl v.kc] full m (w.heap.size + 1) (w.heap.size + 1 + 1) w3.heap.size (w3.heap.size + 1) gw cw (((w3.alloc (.cells #[.slice (some ⟨gw, 0, none⟩) full.length cw] 24)).alloc (.cells #[.int .i64 v.op, .int .i64 v.num, .string v.tx, .slice v.pa v.pl v.pc, .slice v.qa v.ql v.qc, .bool v.opn, .slice v.ka v.kl v.kc] 26)).alloc (.cells #[.int .i64 0] 3)) ∧ Below w3.heap.size w3 (((w3.alloc (.cells #[.slice (some ⟨gw, 0, none⟩) full.length cw] 24)).alloc (.cells #[.int .i64 v.op, .int .i64 v.num, .string v.tx, .slice v.pa v.pl v.pc, .slice v.qa v.ql v.qc, .bool v.opn, .slice v.ka v.kl v.kc] 26)).alloc (.cells #[.int .i64 0] 3)) ∧ (((w3.alloc (.cells #[.slice (some ⟨gw, 0, none⟩) full.length cw] 24)).alloc (.cells #[.int .i64 v.op, .int .i64 v.num, .string v.tx, .slice v.pa v.pl v.pc, .slice v.qa v.ql v.qc, .bool v.opn, .slice v.ka v.kl v.kc] 26)).alloc (.cells #[.int .i64 0] 3)).heap[w3.heap.size + 1 + 1]? = some (.cells #[.int .i64 0] 3 (0, 0)) := by
      have q0 := new_cells w3 #[.slice (some ⟨gw, 0, none⟩) full.length cw] 24
      have e0 := bel1 w3 (.cells #[.slice (some ⟨gw, 0, none⟩) full.length cw] 24)
      have q1 := new_cells (w3.alloc (.cells #[.slice (some ⟨gw, 0, none⟩) full.length cw] 24)) #[.int .i64 v.op, .int .i64 v.num, .string v.tx, .slice v.pa v.pl v.pc, .slice v.qa v.ql v.qc, .bool v.opn, .slice v.ka v.kl v.kc] 26
      have e1 := bel1 (w3.alloc (.cells #[.slice (some ⟨gw, 0, none⟩) full.length cw] 24)) (.cells #[.int .i64 v.op, .int .i64 v.num, .string v.tx, .slice v.pa v.pl v.pc, .slice v.qa v.ql v.qc, .bool v.opn, .slice v.ka v.kl v.kc] 26)
      have q2 := new_cells ((w3.alloc (.cells #[.slice (some ⟨gw, 0, none⟩) full.length cw] 24)).alloc (.cells #[.int .i64 v.op, .int .i64 v.num, .string v.tx, .slice v.pa v.pl v.pc, .slice v.qa v.ql v.qc, .bool v.opn, .slice v.ka v.kl v.kc] 26)) #[.int .i64 0] 3
      have e2 := bel1 ((w3.alloc (.cells #[.slice (some ⟨gw, 0, none⟩) full.length cw] 24)).alloc (.cells #[.int .i64 v.op, .int .i64 v.num, .string v.tx, .slice v.pa v.pl v.pc, .slice v.qa v.ql v.qc, .bool v.opn, .slice v.ka v.kl v.kc] 26)) (.cells #[.int .i64 0] 3)
      rw [World.size_alloc, World.size_alloc] at q2 e2
      rw [World.size_alloc] at q1 e1
      have e : Below w3.heap.size w3 (((w3.alloc (.cells #[.slice (some ⟨gw, 0, none⟩) full.length cw] 24)).alloc (.cells #[.int .i64 v.op, .int .i64 v.num, .string v.tx, .slice v.pa v.pl v.pc, .slice v.qa v.ql v.qc, .bool v.opn, .slice v.ka v.kl v.kc] 26)).alloc (.cells #[.int .i64 0] 3)) := e0.trans ((e1.mono (by omega)).trans (e2.mono (by omega)))
      exact ⟨⟨hbe.trans (e.mono hq1), (e2.block _ (by omega)).trans q1, (e.block _ (lt_of_block k1)).trans k1, (e.block _ (lt_of_block k2)).trans k2, (e2.block _ (by omega)).trans ((e1.block _ (by omega)).trans q0), Nat.lt_of_lt_of_le hg1 e.size, fun i hi => by obtain ⟨u, h1, h2⟩ := hWant i hi; exact ⟨u, h1.kept (fun o => e.cell (p := ⟨gw, o, none⟩) hg1), h2⟩, by omega, by omega, by omega⟩, e, q2⟩
    obtain ⟨hRW0, he6, hT0⟩ := hst
    generalize ((w3.alloc (.cells #[.slice (some ⟨gw, 0, none⟩) full.length cw] 24)).alloc (.cells #[.int .i64 v.op, .int .i64 v.num, .string v.tx, .slice v.pa v.pl v.pc, .slice v.qa v.ql v.qc, .bool v.opn, .slice v.ka v.kl v.kc] 26)).alloc (.cells #[.int .i64 0] 3) = w6 at hRW0 he6 hT0 ⊢
    refine loop_two (OI w v m w.heap.size full (w.heap.size + 1) (w.heap.size + 1 + 1) w3.heap.size (w3.heap.size + 1) gw cw) ?start ?round ?last
    case start =>
      exact OI.mk (w3.heap.size + 1 + 1) [] rfl rfl ⟨fun D h => by simp at h, List.nodup_nil⟩  hRW0 ((he6.block _ (lt_of_block k0)).trans k0) hT0
    case round =>
      rintro i a W hi ⟨tb, Ds, us, rfl, hlen, hDef, hRW, h0, hT⟩
      clear hRW0 he6 hT0 hWant k0 k1 k2 hbe
      have hi2 : i = 0 ∨ i = 1 := by omega
      rcases hi2 with rfl | rfl
      · have HTB := Lib.hid (show W.heap[tb]? = some (.cells #[.int .i64 0] 3 (0, 0)) from hT)
        have cT0 := cells_of HTB.out 0
        have HRW := Lib.hid hRW
        have HDEF := Lib.hid hDef
        have HLEN := Lib.hid hlen
        have H00 := Lib.hid h0
        have hwW := hRW.bel.size
        clear hT hRW hDef hlen h0
        unfold T3
        gi_wp2
        have hbn := bel1 W (.cells #[.int .i64 0] 3)
        have hnn := new_cells W #[.int .i64 0] 3
        have hzn : (W.alloc (.cells #[.int .i64 0] 3)).heap.size = W.heap.size + 1 := by simp
        generalize W.alloc (.cells #[.int .i64 0] 3) = W5 at hbn hnn hzn ⊢
        refine walk_law rfl (by omega) (gf := 28) (lb := #[.pointer (some ⟨w3.heap.size + 1, 0, none⟩)]) rfl trivial (enters_of Tryd.func28 (by kernel_rfl) rfl)
          (HIT.out (w3.heap.size + 1)) (by rintro k xs ⟨v', y, _, rfl, _⟩; rfl) (fun A B hm hb => ⟨(hb.block _ (lt_of_block hm.1)).trans hm.1, Nat.le_trans hm.2.1 hb.size, hm.2.2.trans (hb.mono hm.2.1)⟩) ⟨(hbn.block _ (lt_of_block HRW.out.t)).trans HRW.out.t, by omega, HRW.out.bel.trans (hbn.mono hwW)⟩
          (fun A B C h k => h.trans k) (fun A l o o' hl h ho => K26.put h ho (by omega) o')
          (WI W m 0) (WX W m 0) ?own ?ownx ⟨hbn, hnn, fun _ => by have := hm.1; simpa using this⟩
          (fun xs a' A => ∃ xb, A.heap[xb]? = some (.cells (aggOf (xs.getD 0 undef)) 26 (0, 0)) ∧ a' = { tmps := #[.agg #[.int .i64 v.op, .int .i64 v.num, .string v.tx, .slice v.pa v.pl v.pc, .slice v.qa v.ql v.qc, .bool v.opn, .slice v.ka v.kl v.kc], .int .u8 m, .pointer (some ⟨w.heap.size, 0, none⟩), .pointer (some ⟨w.heap.size + 1, 0, none⟩), .pointer (some ⟨w.heap.size + 1 + 1, 0, none⟩), .pointer (some ⟨w3.heap.size, 0, none⟩), .func (.func 28) #[] #[.pointer (some ⟨w3.heap.size + 1, 0, none⟩)], .pointer (some ⟨tb, 0, none⟩), .pointer (some ⟨W.heap.size, 0, none⟩), .pointer (some ⟨xb, 0, none⟩), us 10, us 11, us 12, us 13, us 14, us 15, us 16, us 17, us 18, us 19, .int .i64 0, .bool true, us 22, us 23, .func (.func 28) #[] #[.pointer (some ⟨w3.heap.size + 1, 0, none⟩)], xs.getD 0 undef, us 26, us 27, us 28, us 29, us 30, us 31, us 32, us 33, us 34, us 35, us 36, us 37, us 38, us 39, us 40, us 41, us 42, us 43, us 44, us 45, us 46, us 47, us 48, us 49, us 50, us 51, us 52, us 53, us 54, us 55, us 56, us 57, us 58, us 59, us 60, us 61, us 62, us 63, us 64, undef, undef, undef, undef, undef, undef, undef, undef], defers := [] }) ?owna ?assign ?body ?done ?stop
        case own =>
          rintro k A Y row h hg hr
          exact h.kept hg (fun r e => by have := (hr r e).1; omega)
        case ownx =>
          rintro c A Y row ⟨h1, h2, h3, h4⟩ hg hr
          exact ⟨h1, h2, h3.grown hg h3.size (fun r e => by have := (hr r e).1; omega), (hg.block _ (lt_of_block h4) (fun e => by have := (hr _ e.symm).1; omega)).trans h4⟩
        case owna =>
          rintro xs a' k A Y row ⟨xb, h2, h3⟩ hg hr
          exact ⟨xb, (grownBy_keeps_cells hg (fun r e => (hr r e).2) h2 rfl).trans h2, h3⟩
        case assign =>
          rintro l k xs A K hI hk ⟨v', y, hy, rfl, hv⟩ hK
          have hA := hI.1.size
          have HK := Lib.hid hK
          have HI := Lib.hid hI
          clear HIT hbn hnn hI hK hy hv
          gi_wp2
          exact HK.out _ _ ((KeepsOthers.alloc _ _).from _) (K26.of (bel1 _ _) (by omega)) (HI.out.kept (grown_below (bel1 _ _)) (fun r e => by cases e)) ⟨A.heap.size, new_cells _ _ _, rfl⟩
        case body =>
          rintro l k xs a' A ⟨hIb, hIv, hkm⟩ ⟨xb, hX, rfl⟩ hk ⟨v', y, hy, rfl, hv⟩
          replace hX : A.heap[xb]? = some (.cells #[.int .i64 v'.op, .int .i64 v'.num, .string v'.tx, .slice v'.pa v'.pl v'.pc, .slice v'.qa v'.ql v'.qc, .bool v'.opn, .slice v'.ka v'.kl v'.kc] 26 (0, 0)) := hX
          have hky : y = full[k] := by rw [List.getElem?_eq_getElem hk] at hy; exact (Option.some.inj hy).symm
          subst hky
          obtain ⟨vq, hE, hq⟩ := HRW.out.want k hk
          have hsA := hIb.size
          have HKM0 := Lib.hid (hkm rfl)
          clear hkm
          have hlb := lt_of_block hIv
          have hxl := lt_of_block hX
          have cX := cells_of hX
          have cN0 := cells_of hIv 0
          have cW0 := cells_of ((hIb.block _ (lt_of_block HRW.out.y3)).trans HRW.out.y3) 0
          have hgl : gw < A.heap.size := by have := HRW.out.lw; omega
          have hb3l : w3.heap.size < A.heap.size := by have := lt_of_block HRW.out.y3; omega
          obtain ⟨d0, d1, d2, d3, d4, d5, d6⟩ := hE.kept (W' := A) (fun o => hIb.cell (p := ⟨gw, o, none⟩) HRW.out.lw)
          have i1 : (0 : Int) ≤ (k : Int) := by omega
          have i2 : (k : Int) < (full.length : Int) := by omega
          have hnl : decide (full.length ≤ k) = false := decide_eq_false (by omega)
          have hk200 : k < 200 := by omega
          have HSAME : Hid (∀ U, Below A.heap.size A U → Calls Tryd.prog 10 #[.agg #[.int .i64 v'.op, .int .i64 v'.num, .string v'.tx, .slice v'.pa v'.pl v'.pc, .slice v'.qa v'.ql v'.qc, .bool v'.opn, .slice v'.ka v'.kl v'.kc], .agg #[.int .i64 vq.op, .int .i64 vq.num, .string vq.tx, .slice vq.pa vq.pl vq.pc, .slice vq.qa vq.ql vq.qc, .bool vq.opn, .slice vq.ka vq.kl vq.kc]] U fun e w' => e = .returned (.bool true) ∧ Below U.heap.size U w') := Lib.hid (fun U hU => by
            have hbU : Below w.heap.size w U := HRW.out.bel.trans ((hIb.trans (hU.mono hsA)).mono hwW)
            refine (sameR_ok full[k].1 U w.heap.size v' vq full[k].2 full[k].2 (by have := hbU.size; omega) (ExIn.kept hbU _ _ _ hv) (ExIn.kept hbU _ _ _ hq)).mono ?_
            rintro e w' ⟨he, hb⟩
            exact ⟨by rw [he, sameE_refl], hb⟩)
          have HNB := Lib.hid hIv
          have HBW := Lib.hid hIb
          have HSZ := Lib.hid hsA
          have HWA : Hid (w.heap.size ≤ A.heap.size) := Lib.hid (by omega)
          have HWS : Hid (w.heap.size ≤ W.heap.size) := Lib.hid hwW
          clear HIT hbn hnn hE hq hv hy hX hIb hIv hpos
          show Code.wpIn _ _ _ _ _ { tmps := #[.agg #[.int .i64 v.op, .int .i64 v.num, .string v.tx, .slice v.pa v.pl v.pc, .slice v.qa v.ql v.qc, .bool v.opn, .slice v.ka v.kl v.kc], .int .u8 m, .pointer (some ⟨w.heap.size, 0, none⟩), .pointer (some ⟨w.heap.size + 1, 0, none⟩), .pointer (some ⟨w.heap.size + 1 + 1, 0, none⟩), .pointer (some ⟨w3.heap.size, 0, none⟩), .func (.func 28) #[] #[.pointer (some ⟨w3.heap.size + 1, 0, none⟩)], .pointer (some ⟨tb, 0, none⟩), .pointer (some ⟨W.heap.size, 0, none⟩), .pointer (some ⟨xb, 0, none⟩), us 10, us 11, us 12, us 13, us 14, us 15, us 16, us 17, us 18, us 19, .int .i64 0, .bool true, us 22, us 23, .func (.func 28) #[] #[.pointer (some ⟨w3.heap.size + 1, 0, none⟩)], .agg #[.int .i64 v'.op, .int .i64 v'.num, .string v'.tx, .slice v'.pa v'.pl v'.pc, .slice v'.qa v'.ql v'.qc, .bool v'.opn, .slice v'.ka v'.kl v'.kc], us 26, us 27, us 28, us 29, us 30, us 31, us 32, us 33, us 34, us 35, us 36, us 37, us 38, us 39, us 40, us 41, us 42, us 43, us 44, us 45, us 46, us 47, us 48, us 49, us 50, us 51, us 52, us 53, us 54, us 55, us 56, us 57, us 58, us 59, us 60, us 61, us 62, us 63, us 64, undef, undef, undef, undef, undef, undef, undef, undef], defers := [] } A
          gi_wp2
          refine wpIn_region_held_round (S := SB A) (by kernel_rfl) (by kernel_rfl) ?_ (fun hH => ?_)
          · exact SB.drew (SB.refl A)
          refine wpAnyH_take (i := 0) (v := ?_) rfl (by kernel_rfl) (by kernel_rfl) (by kernel_rfl) (fun _ _ _ h => h) (Or.inl ⟨by rfl, ?_⟩) (by assumption) ?_
          rotate_left; focus (intro w hSw; (try dsimp only at hSw); go_simp; try with_reducible rfl)
          (try simp only [List.getElem_toArray, List.getElem_cons_succ, List.getElem_cons_zero, Act.put, List.setIfInBounds_toArray, List.set_cons_zero, List.set_cons_succ])
          refine wpAnyH_take (i := 1) (v := ?_) rfl (by kernel_rfl) (by kernel_rfl) (by kernel_rfl) (fun _ _ _ h => h) (Or.inl ⟨by rfl, ?_⟩) (by assumption) ?_
          rotate_left; focus (intro w hSw; (try dsimp only at hSw); go_simp; try with_reducible rfl)
          (try simp only [List.getElem_toArray, List.getElem_cons_succ, List.getElem_cons_zero, Act.put, List.setIfInBounds_toArray, List.set_cons_zero, List.set_cons_succ])
          refine wpAnyH_take (i := 2) (v := ?_) rfl (by kernel_rfl) (by kernel_rfl) (by kernel_rfl) (fun _ _ _ h => h) (Or.inl ⟨by rfl, ?_⟩) (by assumption) ?_
          rotate_left; focus (intro w hSw; (try dsimp only at hSw); go_simp; try with_reducible rfl)
          (try simp only [List.getElem_toArray, List.getElem_cons_succ, List.getElem_cons_zero, Act.put, List.setIfInBounds_toArray, List.set_cons_zero, List.set_cons_succ])
          refine wpAnyH_take (i := 3) (v := ?_) rfl (by kernel_rfl) (by kernel_rfl) (by kernel_rfl) (fun _ _ _ h => h) (Or.inl ⟨by rfl, ?_⟩) (by assumption) ?_
          rotate_left; focus (intro w hSw; (try dsimp only at hSw); go_simp; try with_reducible rfl)
          (try simp only [List.getElem_toArray, List.getElem_cons_succ, List.getElem_cons_zero, Act.put, List.setIfInBounds_toArray, List.set_cons_zero, List.set_cons_succ])
          refine wpAnyH_take (i := 4) (v := ?_) rfl (by kernel_rfl) (by kernel_rfl) (by kernel_rfl) (fun _ _ _ h => h) (Or.inl ⟨by rfl, ?_⟩) (by assumption) ?_
          rotate_left; focus (intro w hSw; (try dsimp only at hSw); go_simp; try with_reducible rfl)
          (try simp only [List.getElem_toArray, List.getElem_cons_succ, List.getElem_cons_zero, Act.put, List.setIfInBounds_toArray, List.set_cons_zero, List.set_cons_succ])
          refine wpAnyH_take (i := 5) (v := ?_) rfl (by kernel_rfl) (by kernel_rfl) (by kernel_rfl) (fun _ _ _ h => h) (Or.inl ⟨by rfl, ?_⟩) (by assumption) ?_
          rotate_left; focus (intro w hSw; (try dsimp only at hSw); go_simp; try with_reducible rfl)
          (try simp only [List.getElem_toArray, List.getElem_cons_succ, List.getElem_cons_zero, Act.put, List.setIfInBounds_toArray, List.set_cons_zero, List.set_cons_succ])
          refine wpAnyH_take (i := 6) (v := ?_) rfl (by kernel_rfl) (by kernel_rfl) (by kernel_rfl) (fun _ _ _ h => h) (Or.inl ⟨by rfl, ?_⟩) (by assumption) ?_
          rotate_left; focus (intro w hSw; (try dsimp only at hSw); go_simp; try with_reducible rfl)
          (try simp only [List.getElem_toArray, List.getElem_cons_succ, List.getElem_cons_zero, Act.put, List.setIfInBounds_toArray, List.set_cons_zero, List.set_cons_succ])
          refine wpAnyH_take (i := 7) (v := ?_) rfl (by kernel_rfl) (by kernel_rfl) (by kernel_rfl) (fun _ _ _ h => h) (Or.inl ⟨by rfl, ?_⟩) (by assumption) ?_
          rotate_left; focus (intro w hSw; (try dsimp only at hSw); go_simp; try with_reducible rfl)
          (try simp only [List.getElem_toArray, List.getElem_cons_succ, List.getElem_cons_zero, Act.put, List.setIfInBounds_toArray, List.set_cons_zero, List.set_cons_succ])
          refine wpAnyH_take (i := 8) (v := ?_) rfl (by kernel_rfl) (by kernel_rfl) (by kernel_rfl) (fun _ _ _ h => h) (Or.inl ⟨by rfl, ?_⟩) (by assumption) ?_
          rotate_left; focus (intro w hSw; (try dsimp only at hSw); go_simp; try with_reducible rfl)
          (try simp only [List.getElem_toArray, List.getElem_cons_succ, List.getElem_cons_zero, Act.put, List.setIfInBounds_toArray, List.set_cons_zero, List.set_cons_succ])
          refine wpAnyH_take (i := 9) (v := ?_) rfl (by kernel_rfl) (by kernel_rfl) (by kernel_rfl) (fun _ _ _ h => h) (Or.inl ⟨by rfl, ?_⟩) (by assumption) ?_
          rotate_left; focus (intro w hSw; (try dsimp only at hSw); go_simp; try with_reducible rfl)
          (try simp only [List.getElem_toArray, List.getElem_cons_succ, List.getElem_cons_zero, Act.put, List.setIfInBounds_toArray, List.set_cons_zero, List.set_cons_succ])
          refine wpAnyH_ready (rs := [10]) (by kernel_rfl) (by simp) ?_
          refine AllReadyH.cons rfl (fun K hK => ?_) ?_
          · skip
            go_simp
            go_at_call 10
            (with_reducible refine (HSAME.out _ (by exact hH.2)).mono ?_)
            rintro e wq ⟨rfl, hbq⟩
            refine hK.out _ _ ?_ (fun hH2 => ?_)
            · exact SB.below hH hbq
            clear hK K hH
            have hH := hH2; clear hH2
            (try simp only [List.getElem_toArray, List.getElem_cons_succ, List.getElem_cons_zero, Act.put, List.setIfInBounds_toArray, List.set_cons_zero, List.set_cons_succ])
            refine wpAnyH_take (i := 11) (v := ?_) rfl (by kernel_rfl) (by kernel_rfl) (by kernel_rfl) (fun _ _ _ h => h) (Or.inl ⟨by rfl, ?_⟩) (by assumption) ?_
            rotate_left; focus (intro w hSw; (try dsimp only at hSw); go_simp; try with_reducible rfl)
            (try simp only [List.getElem_toArray, List.getElem_cons_succ, List.getElem_cons_zero, Act.put, List.setIfInBounds_toArray, List.set_cons_zero, List.set_cons_succ])
            refine wpAnyH_take (i := 12) (v := ?_) rfl (by kernel_rfl) (by kernel_rfl) (by kernel_rfl) (fun _ _ _ h => h) (Or.inl ⟨by rfl, ?_⟩) (by assumption) ?_
            rotate_left; focus (intro w hSw; (try dsimp only at hSw); go_simp; try with_reducible rfl)
            (try simp only [List.getElem_toArray, List.getElem_cons_succ, List.getElem_cons_zero, Act.put, List.setIfInBounds_toArray, List.set_cons_zero, List.set_cons_succ])
            refine wpAnyH_done (by kernel_rfl) ?_ _
            clear hH
            refine calmQ_end ?_
            have hbH : Below A.heap.size A wq := (Below.refl _ _).drew.trans hbq
            clear hbq
            obtain ⟨wz, hwz⟩ : ∃ wz, wq = wz := ⟨_, rfl⟩
            subst hwz
            have hbA : Below A.heap.size A wq := hbH
            have y0 := (hbA.block _ (lt_of_block HNB.out)).trans HNB.out
            have cN := cells_of y0 0
            have fN := cells_free y0 0
            have hsA := hbA.size
            have cT := cells_of ((hbA.block _ (by have := lt_of_block HTB.out; have := HSZ.out; omega)).trans ((HBW.out.block _ (lt_of_block HTB.out)).trans HTB.out)) 0
            have cM := cells_of ((hbA.block _ (by have := lt_of_block HRW.out.y1; have := HSZ.out; omega)).trans ((HBW.out.block _ (lt_of_block HRW.out.y1)).trans HRW.out.y1)) 0
            have cN7 : ∀ u, (wq.setCell ⟨W.heap.size, 0, none⟩ u).cell? ⟨W.heap.size, 0, none⟩ = some u := fun u => cells_of (set_same y0) 0
            have cT7 : ∀ u, (wq.setCell ⟨W.heap.size, 0, none⟩ u).cell? ⟨tb, 0, none⟩ = some (.int .i64 0) := fun u => ((gset wq W.heap.size 0 u).cell_far ⟨tb, 0, none⟩ (by have := lt_of_block HTB.out; have := HSZ.out; show tb < _; omega) (fun e => by have h1 := lt_of_block HTB.out; have h2 : tb = W.heap.size := Option.some.inj e; omega)).trans cT
            have cM7 : ∀ u, (wq.setCell ⟨W.heap.size, 0, none⟩ u).cell? ⟨w.heap.size + 1, 0, none⟩ = some (.int .u8 m) := fun u => ((gset wq W.heap.size 0 u).cell_far ⟨w.heap.size + 1, 0, none⟩ (by have := lt_of_block HRW.out.y1; have := HSZ.out; show w.heap.size + 1 < _; omega) (fun e => by have h1 := lt_of_block HRW.out.y1; have h2 : w.heap.size + 1 = W.heap.size := Option.some.inj e; omega)).trans cM
            have Q1 := Lib.hid ((KeepsOthers.of_grownBy (row := none) (grown_below hbA) (fun _ _ e => by cases e)).trans (KeepsOthers.setCell wq ⟨W.heap.size, 0, none⟩ (.int .i64 ((k : Int) + 1))))
            have Q2 := Lib.hid ((K26.of hbA HWA.out).trans (K26.set y0 HWS.out (by decide) (.int .i64 ((k : Int) + 1))))
            have QI := Lib.hid ((HBW.out.trans (hbA.mono HSZ.out)).setCell (p := ⟨W.heap.size, 0, none⟩) (Nat.le_refl _) (.int .i64 ((k : Int) + 1)))
            have QV : Hid ((wq.setCell ⟨W.heap.size, 0, none⟩ (.int .i64 ((k : Int) + 1))).heap[W.heap.size]? = some (.cells #[.int .i64 ((k + 1 : Nat) : Int)] 3 (0, 0))) := Lib.hid (set_same y0)
            clear y0 hbH hbA
            by_cases hk1 : (m : Int) < (k : Int) + 1
            · have HKM : Hid ((k : Int) + 1 = m + 1) := Lib.hid (by have := HKM0.out; omega)
              gi_wp2
              exact ⟨Q1.out.from _, rfl, rfl, QI.out, by have h := QV.out; rw [show (((k + 1 : Nat) : Int)) = m + 1 from by have := HKM.out; omega] at h; exact h⟩
            · have hk2 : (k : Int) + 1 ≤ m := by omega
              have HK2 := Lib.hid hk2
              clear hk1
              gi_wp2
              exact ⟨Q1.out.from _, Q2.out, QI.out, QV.out, fun _ => by have := HK2.out; omega⟩
          exact AllReadyH.nil
        case done =>
          rintro D W2 hD hI hd
          clear HIT hbn hnn
          obtain ⟨hIb, hIv, hkm⟩ := hI
          have hbx := hIb
          have cN := cells_of hIv 0
          have cW := cells_of ((hbx.block _ (lt_of_block HRW.out.y3)).trans HRW.out.y3) 0
          have cT := cells_of ((hbx.block _ (lt_of_block HTB.out)).trans HTB.out) 0
          have cM := cells_of ((hbx.block _ (lt_of_block HRW.out.y1)).trans HRW.out.y1) 0
          have HBX := Lib.hid hbx
          have HDD := Lib.hid hd
          have HDL := Lib.hid hD
          clear hbx hIb hIv hd hD hkm
          gi_wp2
          obtain ⟨g1, g2, g3, g4⟩ := next_box HBX.out HDD.out HDEF.out HRW.out H00.out (by have := HDL.out; omega) 1
          exact OI.mk (W2.heap.size) (D :: Ds) rfl (by rw [List.length_cons, HLEN.out]) g1 g2 g3 g4
        case stop =>
          rintro D c W2 hD hX hd
          clear HIT hbn hnn
          obtain ⟨rfl, -, hIb, hIv⟩ := hX
          have hbx := hIb
          have cN := cells_of hIv 0
          have cW := cells_of ((hbx.block _ (lt_of_block HRW.out.y3)).trans HRW.out.y3) 0
          have cT := cells_of ((hbx.block _ (lt_of_block HTB.out)).trans HTB.out) 0
          have cM := cells_of ((hbx.block _ (lt_of_block HRW.out.y1)).trans HRW.out.y1) 0
          have HBX := Lib.hid hbx
          have HDD := Lib.hid hd
          have HDL := Lib.hid hD
          have hw1 : (m + 1 != m + 1) = false := by simp
          have hw2 : IntKind.i64.wrap (m + 1) = m + 1 := by rw [IntKind.wrap_i64]; omega
          clear hbx hIb hIv hd hD
          cases hne : (m + 1 != (full.length : Int))
          · gi_wp2
            obtain ⟨g1, g2, g3, g4⟩ := next_box HBX.out HDD.out HDEF.out HRW.out H00.out (by have := HDL.out; omega) 1
            exact OI.mk (W2.heap.size) (D :: Ds) rfl (by rw [List.length_cons, HLEN.out]) g1 g2 g3 g4
          · gi_wp2
            obtain ⟨g1, g2, g3, g4⟩ := next_box HBX.out HDD.out HDEF.out HRW.out H00.out (by have := HDL.out; omega) 1
            exact OI.mk (W2.heap.size) (D :: Ds) rfl (by rw [List.length_cons, HLEN.out]) g1 g2 g3 g4
      · have HTB := Lib.hid (show W.heap[tb]? = some (.cells #[.int .i64 1] 3 (0, 0)) from hT)
        have cT0 := cells_of HTB.out 0
        have HRW := Lib.hid hRW
        have HDEF := Lib.hid hDef
        have HLEN := Lib.hid hlen
        have H00 := Lib.hid h0
        have hwW := hRW.bel.size
        clear hT hRW hDef hlen h0
        unfold T3
        gi_wp2
        have hbn := bel1 W (.cells #[.int .i64 0] 3)
        have hnn := new_cells W #[.int .i64 0] 3
        have hzn : (W.alloc (.cells #[.int .i64 0] 3)).heap.size = W.heap.size + 1 := by simp
        generalize W.alloc (.cells #[.int .i64 0] 3) = W5 at hbn hnn hzn ⊢
        refine walk_law rfl (by omega) (gf := 28) (lb := #[.pointer (some ⟨w3.heap.size + 1, 0, none⟩)]) rfl trivial (enters_of Tryd.func28 (by kernel_rfl) rfl)
          (HIT.out (w3.heap.size + 1)) (by rintro k xs ⟨v', y, _, rfl, _⟩; rfl) (fun A B hm hb => ⟨(hb.block _ (lt_of_block hm.1)).trans hm.1, Nat.le_trans hm.2.1 hb.size, hm.2.2.trans (hb.mono hm.2.1)⟩) ⟨(hbn.block _ (lt_of_block HRW.out.t)).trans HRW.out.t, by omega, HRW.out.bel.trans (hbn.mono hwW)⟩
          (fun A B C h k => h.trans k) (fun A l o o' hl h ho => K26.put h ho (by omega) o')
          (WI W m 1) (WX W m 1) ?own ?ownx ⟨hbn, hnn, fun _ => by have := hm.1; simpa using this⟩
          (fun xs a' A => ∃ xb, A.heap[xb]? = some (.cells (aggOf (xs.getD 0 undef)) 26 (0, 0)) ∧ a' = { tmps := #[.agg #[.int .i64 v.op, .int .i64 v.num, .string v.tx, .slice v.pa v.pl v.pc, .slice v.qa v.ql v.qc, .bool v.opn, .slice v.ka v.kl v.kc], .int .u8 m, .pointer (some ⟨w.heap.size, 0, none⟩), .pointer (some ⟨w.heap.size + 1, 0, none⟩), .pointer (some ⟨w.heap.size + 1 + 1, 0, none⟩), .pointer (some ⟨w3.heap.size, 0, none⟩), .func (.func 28) #[] #[.pointer (some ⟨w3.heap.size + 1, 0, none⟩)], .pointer (some ⟨tb, 0, none⟩), .pointer (some ⟨W.heap.size, 0, none⟩), .pointer (some ⟨xb, 0, none⟩), us 10, us 11, us 12, us 13, us 14, us 15, us 16, us 17, us 18, us 19, .int .i64 1, .bool true, us 22, us 23, .func (.func 28) #[] #[.pointer (some ⟨w3.heap.size + 1, 0, none⟩)], xs.getD 0 undef, us 26, us 27, us 28, us 29, us 30, us 31, us 32, us 33, us 34, us 35, us 36, us 37, us 38, us 39, us 40, us 41, us 42, us 43, us 44, us 45, us 46, us 47, us 48, us 49, us 50, us 51, us 52, us 53, us 54, us 55, us 56, us 57, us 58, us 59, us 60, us 61, us 62, us 63, us 64, undef, undef, undef, undef, undef, undef, undef, undef], defers := [] }) ?owna ?assign ?body ?done ?stop
        case own =>
          rintro k A Y row h hg hr
          exact h.kept hg (fun r e => by have := (hr r e).1; omega)
        case ownx =>
          rintro c A Y row ⟨h1, h2, h3, h4⟩ hg hr
          exact ⟨h1, h2, h3.grown hg h3.size (fun r e => by have := (hr r e).1; omega), (hg.block _ (lt_of_block h4) (fun e => by have := (hr _ e.symm).1; omega)).trans h4⟩
        case owna =>
          rintro xs a' k A Y row ⟨xb, h2, h3⟩ hg hr
          exact ⟨xb, (grownBy_keeps_cells hg (fun r e => (hr r e).2) h2 rfl).trans h2, h3⟩
        case assign =>
          rintro l k xs A K hI hk ⟨v', y, hy, rfl, hv⟩ hK
          have hA := hI.1.size
          have HK := Lib.hid hK
          have HI := Lib.hid hI
          clear HIT hbn hnn hI hK hy hv
          gi_wp2
          exact HK.out _ _ ((KeepsOthers.alloc _ _).from _) (K26.of (bel1 _ _) (by omega)) (HI.out.kept (grown_below (bel1 _ _)) (fun r e => by cases e)) ⟨A.heap.size, new_cells _ _ _, rfl⟩
        case body =>
          rintro l k xs a' A ⟨hIb, hIv, hkm⟩ ⟨xb, hX, rfl⟩ hk ⟨v', y, hy, rfl, hv⟩
          replace hX : A.heap[xb]? = some (.cells #[.int .i64 v'.op, .int .i64 v'.num, .string v'.tx, .slice v'.pa v'.pl v'.pc, .slice v'.qa v'.ql v'.qc, .bool v'.opn, .slice v'.ka v'.kl v'.kc] 26 (0, 0)) := hX
          have hky : y = full[k] := by rw [List.getElem?_eq_getElem hk] at hy; exact (Option.some.inj hy).symm
          subst hky
          obtain ⟨vq, hE, hq⟩ := HRW.out.want k hk
          have hsA := hIb.size
          skip
          clear hkm
          have hlb := lt_of_block hIv
          have hxl := lt_of_block hX
          have cX := cells_of hX
          have cN0 := cells_of hIv 0
          have cW0 := cells_of ((hIb.block _ (lt_of_block HRW.out.y3)).trans HRW.out.y3) 0
          have hgl : gw < A.heap.size := by have := HRW.out.lw; omega
          have hb3l : w3.heap.size < A.heap.size := by have := lt_of_block HRW.out.y3; omega
          obtain ⟨d0, d1, d2, d3, d4, d5, d6⟩ := hE.kept (W' := A) (fun o => hIb.cell (p := ⟨gw, o, none⟩) HRW.out.lw)
          have i1 : (0 : Int) ≤ (k : Int) := by omega
          have i2 : (k : Int) < (full.length : Int) := by omega
          have hnl : decide (full.length ≤ k) = false := decide_eq_false (by omega)
          have hk200 : k < 200 := by omega
          have HSAME : Hid (∀ U, Below A.heap.size A U → Calls Tryd.prog 10 #[.agg #[.int .i64 v'.op, .int .i64 v'.num, .string v'.tx, .slice v'.pa v'.pl v'.pc, .slice v'.qa v'.ql v'.qc, .bool v'.opn, .slice v'.ka v'.kl v'.kc], .agg #[.int .i64 vq.op, .int .i64 vq.num, .string vq.tx, .slice vq.pa vq.pl vq.pc, .slice vq.qa vq.ql vq.qc, .bool vq.opn, .slice vq.ka vq.kl vq.kc]] U fun e w' => e = .returned (.bool true) ∧ Below U.heap.size U w') := Lib.hid (fun U hU => by
            have hbU : Below w.heap.size w U := HRW.out.bel.trans ((hIb.trans (hU.mono hsA)).mono hwW)
            refine (sameR_ok full[k].1 U w.heap.size v' vq full[k].2 full[k].2 (by have := hbU.size; omega) (ExIn.kept hbU _ _ _ hv) (ExIn.kept hbU _ _ _ hq)).mono ?_
            rintro e w' ⟨he, hb⟩
            exact ⟨by rw [he, sameE_refl], hb⟩)
          have HNB := Lib.hid hIv
          have HBW := Lib.hid hIb
          have HSZ := Lib.hid hsA
          have HWA : Hid (w.heap.size ≤ A.heap.size) := Lib.hid (by omega)
          have HWS : Hid (w.heap.size ≤ W.heap.size) := Lib.hid hwW
          clear HIT hbn hnn hE hq hv hy hX hIb hIv hpos
          show Code.wpIn _ _ _ _ _ { tmps := #[.agg #[.int .i64 v.op, .int .i64 v.num, .string v.tx, .slice v.pa v.pl v.pc, .slice v.qa v.ql v.qc, .bool v.opn, .slice v.ka v.kl v.kc], .int .u8 m, .pointer (some ⟨w.heap.size, 0, none⟩), .pointer (some ⟨w.heap.size + 1, 0, none⟩), .pointer (some ⟨w.heap.size + 1 + 1, 0, none⟩), .pointer (some ⟨w3.heap.size, 0, none⟩), .func (.func 28) #[] #[.pointer (some ⟨w3.heap.size + 1, 0, none⟩)], .pointer (some ⟨tb, 0, none⟩), .pointer (some ⟨W.heap.size, 0, none⟩), .pointer (some ⟨xb, 0, none⟩), us 10, us 11, us 12, us 13, us 14, us 15, us 16, us 17, us 18, us 19, .int .i64 1, .bool true, us 22, us 23, .func (.func 28) #[] #[.pointer (some ⟨w3.heap.size + 1, 0, none⟩)], .agg #[.int .i64 v'.op, .int .i64 v'.num, .string v'.tx, .slice v'.pa v'.pl v'.pc, .slice v'.qa v'.ql v'.qc, .bool v'.opn, .slice v'.ka v'.kl v'.kc], us 26, us 27, us 28, us 29, us 30, us 31, us 32, us 33, us 34, us 35, us 36, us 37, us 38, us 39, us 40, us 41, us 42, us 43, us 44, us 45, us 46, us 47, us 48, us 49, us 50, us 51, us 52, us 53, us 54, us 55, us 56, us 57, us 58, us 59, us 60, us 61, us 62, us 63, us 64, undef, undef, undef, undef, undef, undef, undef, undef], defers := [] } A
          gi_wp2
          refine wpIn_region_held_round (S := SB A) (by kernel_rfl) (by kernel_rfl) ?_ (fun hH => ?_)
          · exact SB.drew (SB.refl A)
          refine wpAnyH_take (i := 0) (v := ?_) rfl (by kernel_rfl) (by kernel_rfl) (by kernel_rfl) (fun _ _ _ h => h) (Or.inl ⟨by rfl, ?_⟩) (by assumption) ?_
          rotate_left; focus (intro w hSw; (try dsimp only at hSw); go_simp; try with_reducible rfl)
          (try simp only [List.getElem_toArray, List.getElem_cons_succ, List.getElem_cons_zero, Act.put, List.setIfInBounds_toArray, List.set_cons_zero, List.set_cons_succ])
          refine wpAnyH_take (i := 1) (v := ?_) rfl (by kernel_rfl) (by kernel_rfl) (by kernel_rfl) (fun _ _ _ h => h) (Or.inl ⟨by rfl, ?_⟩) (by assumption) ?_
          rotate_left; focus (intro w hSw; (try dsimp only at hSw); go_simp; try with_reducible rfl)
          (try simp only [List.getElem_toArray, List.getElem_cons_succ, List.getElem_cons_zero, Act.put, List.setIfInBounds_toArray, List.set_cons_zero, List.set_cons_succ])
          refine wpAnyH_take (i := 2) (v := ?_) rfl (by kernel_rfl) (by kernel_rfl) (by kernel_rfl) (fun _ _ _ h => h) (Or.inl ⟨by rfl, ?_⟩) (by assumption) ?_
          rotate_left; focus (intro w hSw; (try dsimp only at hSw); go_simp; try with_reducible rfl)
          (try simp only [List.getElem_toArray, List.getElem_cons_succ, List.getElem_cons_zero, Act.put, List.setIfInBounds_toArray, List.set_cons_zero, List.set_cons_succ])
          refine wpAnyH_take (i := 3) (v := ?_) rfl (by kernel_rfl) (by kernel_rfl) (by kernel_rfl) (fun _ _ _ h => h) (Or.inl ⟨by rfl, ?_⟩) (by assumption) ?_
          rotate_left; focus (intro w hSw; (try dsimp only at hSw); go_simp; try with_reducible rfl)
          (try simp only [List.getElem_toArray, List.getElem_cons_succ, List.getElem_cons_zero, Act.put, List.setIfInBounds_toArray, List.set_cons_zero, List.set_cons_succ])
          refine wpAnyH_take (i := 4) (v := ?_) rfl (by kernel_rfl) (by kernel_rfl) (by kernel_rfl) (fun _ _ _ h => h) (Or.inl ⟨by rfl, ?_⟩) (by assumption) ?_
          rotate_left; focus (intro w hSw; (try dsimp only at hSw); go_simp; try with_reducible rfl)
          (try simp only [List.getElem_toArray, List.getElem_cons_succ, List.getElem_cons_zero, Act.put, List.setIfInBounds_toArray, List.set_cons_zero, List.set_cons_succ])
          refine wpAnyH_take (i := 5) (v := ?_) rfl (by kernel_rfl) (by kernel_rfl) (by kernel_rfl) (fun _ _ _ h => h) (Or.inl ⟨by rfl, ?_⟩) (by assumption) ?_
          rotate_left; focus (intro w hSw; (try dsimp only at hSw); go_simp; try with_reducible rfl)
          (try simp only [List.getElem_toArray, List.getElem_cons_succ, List.getElem_cons_zero, Act.put, List.setIfInBounds_toArray, List.set_cons_zero, List.set_cons_succ])
          refine wpAnyH_take (i := 6) (v := ?_) rfl (by kernel_rfl) (by kernel_rfl) (by kernel_rfl) (fun _ _ _ h => h) (Or.inl ⟨by rfl, ?_⟩) (by assumption) ?_
          rotate_left; focus (intro w hSw; (try dsimp only at hSw); go_simp; try with_reducible rfl)
          (try simp only [List.getElem_toArray, List.getElem_cons_succ, List.getElem_cons_zero, Act.put, List.setIfInBounds_toArray, List.set_cons_zero, List.set_cons_succ])
          refine wpAnyH_take (i := 7) (v := ?_) rfl (by kernel_rfl) (by kernel_rfl) (by kernel_rfl) (fun _ _ _ h => h) (Or.inl ⟨by rfl, ?_⟩) (by assumption) ?_
          rotate_left; focus (intro w hSw; (try dsimp only at hSw); go_simp; try with_reducible rfl)
          (try simp only [List.getElem_toArray, List.getElem_cons_succ, List.getElem_cons_zero, Act.put, List.setIfInBounds_toArray, List.set_cons_zero, List.set_cons_succ])
          refine wpAnyH_take (i := 8) (v := ?_) rfl (by kernel_rfl) (by kernel_rfl) (by kernel_rfl) (fun _ _ _ h => h) (Or.inl ⟨by rfl, ?_⟩) (by assumption) ?_
          rotate_left; focus (intro w hSw; (try dsimp only at hSw); go_simp; try with_reducible rfl)
          (try simp only [List.getElem_toArray, List.getElem_cons_succ, List.getElem_cons_zero, Act.put, List.setIfInBounds_toArray, List.set_cons_zero, List.set_cons_succ])
          refine wpAnyH_take (i := 9) (v := ?_) rfl (by kernel_rfl) (by kernel_rfl) (by kernel_rfl) (fun _ _ _ h => h) (Or.inl ⟨by rfl, ?_⟩) (by assumption) ?_
          rotate_left; focus (intro w hSw; (try dsimp only at hSw); go_simp; try with_reducible rfl)
          (try simp only [List.getElem_toArray, List.getElem_cons_succ, List.getElem_cons_zero, Act.put, List.setIfInBounds_toArray, List.set_cons_zero, List.set_cons_succ])
          refine wpAnyH_ready (rs := [10]) (by kernel_rfl) (by simp) ?_
          refine AllReadyH.cons rfl (fun K hK => ?_) ?_
          · skip
            go_simp
            go_at_call 10
            (with_reducible refine (HSAME.out _ (by exact hH.2)).mono ?_)
            rintro e wq ⟨rfl, hbq⟩
            refine hK.out _ _ ?_ (fun hH2 => ?_)
            · exact SB.below hH hbq
            clear hK K hH
            have hH := hH2; clear hH2
            (try simp only [List.getElem_toArray, List.getElem_cons_succ, List.getElem_cons_zero, Act.put, List.setIfInBounds_toArray, List.set_cons_zero, List.set_cons_succ])
            refine wpAnyH_take (i := 11) (v := ?_) rfl (by kernel_rfl) (by kernel_rfl) (by kernel_rfl) (fun _ _ _ h => h) (Or.inl ⟨by rfl, ?_⟩) (by assumption) ?_
            rotate_left; focus (intro w hSw; (try dsimp only at hSw); go_simp; try with_reducible rfl)
            (try simp only [List.getElem_toArray, List.getElem_cons_succ, List.getElem_cons_zero, Act.put, List.setIfInBounds_toArray, List.set_cons_zero, List.set_cons_succ])
            refine wpAnyH_take (i := 12) (v := ?_) rfl (by kernel_rfl) (by kernel_rfl) (by kernel_rfl) (fun _ _ _ h => h) (Or.inl ⟨by rfl, ?_⟩) (by assumption) ?_
            rotate_left; focus (intro w hSw; (try dsimp only at hSw); go_simp; try with_reducible rfl)
            (try simp only [List.getElem_toArray, List.getElem_cons_succ, List.getElem_cons_zero, Act.put, List.setIfInBounds_toArray, List.set_cons_zero, List.set_cons_succ])
            refine wpAnyH_done (by kernel_rfl) ?_ _
            clear hH
            refine calmQ_end ?_
            have hbH : Below A.heap.size A wq := (Below.refl _ _).drew.trans hbq
            clear hbq
            obtain ⟨wz, hwz⟩ : ∃ wz, wq = wz := ⟨_, rfl⟩
            subst hwz
            have hbA : Below A.heap.size A wq := hbH
            have y0 := (hbA.block _ (lt_of_block HNB.out)).trans HNB.out
            have cN := cells_of y0 0
            have fN := cells_free y0 0
            have hsA := hbA.size
            have cT := cells_of ((hbA.block _ (by have := lt_of_block HTB.out; have := HSZ.out; omega)).trans ((HBW.out.block _ (lt_of_block HTB.out)).trans HTB.out)) 0
            have cM := cells_of ((hbA.block _ (by have := lt_of_block HRW.out.y1; have := HSZ.out; omega)).trans ((HBW.out.block _ (lt_of_block HRW.out.y1)).trans HRW.out.y1)) 0
            have cN7 : ∀ u, (wq.setCell ⟨W.heap.size, 0, none⟩ u).cell? ⟨W.heap.size, 0, none⟩ = some u := fun u => cells_of (set_same y0) 0
            have cT7 : ∀ u, (wq.setCell ⟨W.heap.size, 0, none⟩ u).cell? ⟨tb, 0, none⟩ = some (.int .i64 1) := fun u => ((gset wq W.heap.size 0 u).cell_far ⟨tb, 0, none⟩ (by have := lt_of_block HTB.out; have := HSZ.out; show tb < _; omega) (fun e => by have h1 := lt_of_block HTB.out; have h2 : tb = W.heap.size := Option.some.inj e; omega)).trans cT
            have cM7 : ∀ u, (wq.setCell ⟨W.heap.size, 0, none⟩ u).cell? ⟨w.heap.size + 1, 0, none⟩ = some (.int .u8 m) := fun u => ((gset wq W.heap.size 0 u).cell_far ⟨w.heap.size + 1, 0, none⟩ (by have := lt_of_block HRW.out.y1; have := HSZ.out; show w.heap.size + 1 < _; omega) (fun e => by have h1 := lt_of_block HRW.out.y1; have h2 : w.heap.size + 1 = W.heap.size := Option.some.inj e; omega)).trans cM
            have Q1 := Lib.hid ((KeepsOthers.of_grownBy (row := none) (grown_below hbA) (fun _ _ e => by cases e)).trans (KeepsOthers.setCell wq ⟨W.heap.size, 0, none⟩ (.int .i64 ((k : Int) + 1))))
            have Q2 := Lib.hid ((K26.of hbA HWA.out).trans (K26.set y0 HWS.out (by decide) (.int .i64 ((k : Int) + 1))))
            have QI := Lib.hid ((HBW.out.trans (hbA.mono HSZ.out)).setCell (p := ⟨W.heap.size, 0, none⟩) (Nat.le_refl _) (.int .i64 ((k : Int) + 1)))
            have QV : Hid ((wq.setCell ⟨W.heap.size, 0, none⟩ (.int .i64 ((k : Int) + 1))).heap[W.heap.size]? = some (.cells #[.int .i64 ((k + 1 : Nat) : Int)] 3 (0, 0))) := Lib.hid (set_same y0)
            clear y0 hbH hbA
            (try gi_wp2)
            exact ⟨Q1.out.from _, Q2.out, QI.out, QV.out, fun h => by cases h⟩
          exact AllReadyH.nil
        case done =>
          rintro D W2 hD hI hd
          clear HIT hbn hnn
          obtain ⟨hIb, hIv, hkm⟩ := hI
          have hbx := hIb
          have cN := cells_of hIv 0
          have cW := cells_of ((hbx.block _ (lt_of_block HRW.out.y3)).trans HRW.out.y3) 0
          have cT := cells_of ((hbx.block _ (lt_of_block HTB.out)).trans HTB.out) 0
          have cM := cells_of ((hbx.block _ (lt_of_block HRW.out.y1)).trans HRW.out.y1) 0
          have HBX := Lib.hid hbx
          have HDD := Lib.hid hd
          have HDL := Lib.hid hD
          clear hbx hIb hIv hd hD hkm
          gi_wp2
          obtain ⟨g1, g2, g3, g4⟩ := next_box HBX.out HDD.out HDEF.out HRW.out H00.out (by have := HDL.out; omega) 2
          exact OI.mk (W2.heap.size) (D :: Ds) rfl (by rw [List.length_cons, HLEN.out]) g1 g2 g3 g4
        case stop =>
          rintro D c W2 hD hX hd
          clear HIT hbn hnn
          obtain ⟨-, h, -⟩ := hX
          cases h
    case last =>
      rintro a W ⟨tb, Ds, us, rfl, hlen, hDef, hRW, h0, hT⟩
      obtain ⟨D2, D1, rfl⟩ : ∃ D2 D1, Ds = [D2, D1] := by
        match Ds, hlen with
        | [D2, D1], _ => exact ⟨D2, D1, rfl⟩
      have cT := cells_of (show W.heap[tb]? = some (.cells #[.int .i64 2] 3 (0, 0)) from hT) 0
      have HRW := Lib.hid hRW
      have HDEF := Lib.hid hDef
      have H00 := Lib.hid h0
      have HB0 : Hid (w.heap.size < W.heap.size) := Lib.hid (lt_of_block h0)
      have HB2 : Hid (w.heap.size + 1 + 1 < W.heap.size) := Lib.hid (lt_of_block hRW.y2)
      clear hRW0 he6 hT0 hWant k0 k1 k2 hbe hT hRW hDef hlen h0 HIT
      unfold T3
      gi_wp2
      refine wpIn_region_held_wide (S := SP w W w.heap.size (w.heap.size + 1 + 1) #[.int .i64 v.op, .int .i64 v.num, .string v.tx, .slice v.pa v.pl v.pc, .slice v.qa v.ql v.qc, .bool v.opn, .slice v.ka v.kl v.kc]) (by kernel_rfl) ?_ (fun hH => ?_)
      · exact ⟨fun o => cells_of H00.out o, cells_free HRW.out.y2 0, HRW.out.bel.drew, Nat.le_refl _⟩
      refine wpAnyH_ready (rs := [0]) (by kernel_rfl) (by simp) ?_
      refine AllReadyH.cons rfl (fun K hK => ?_) ?_
      · skip
        go_simp
        go_at_call 7
        (with_reducible refine (HAW.out _ (by exact hH.2.2.1)).mono ?_)
        rintro e wa ⟨rfl, hba⟩
        have hba2 : Below W.heap.size W wa := (Below.refl _ _).drew.trans hba
        refine hK.out _ _ ?_ (fun hH2 => ?_)
        · exact hH.below hba HB0.out HB2.out
        clear hK K hH
        have hH := hH2; clear hH2
        (try simp only [List.getElem_toArray, List.getElem_cons_succ, List.getElem_cons_zero, Act.put, List.setIfInBounds_toArray, List.set_cons_zero, List.set_cons_succ])
        refine wpAnyH_take (i := 1) (v := ?_) rfl (by kernel_rfl) (by kernel_rfl) (by kernel_rfl) (fun _ _ _ h => h) (Or.inl ⟨by rfl, ?_⟩) (by assumption) ?_
        rotate_left; focus (intro w hSw; (try dsimp only at hSw); go_simp; try with_reducible rfl)
        (try simp only [List.getElem_toArray, List.getElem_cons_succ, List.getElem_cons_zero, Act.put, List.setIfInBounds_toArray, List.set_cons_zero, List.set_cons_succ])
        refine wpAnyH_take (i := 2) (v := ?_) rfl (by kernel_rfl) (by kernel_rfl) (by kernel_rfl) (fun _ _ _ h => h) (Or.inl ⟨by rfl, ?_⟩) (by assumption) ?_
        rotate_left; focus (intro w hSw; (try dsimp only at hSw); go_simp; try with_reducible rfl)
        (try simp only [List.getElem_toArray, List.getElem_cons_succ, List.getElem_cons_zero, Act.put, List.setIfInBounds_toArray, List.set_cons_zero, List.set_cons_succ])
        refine wpAnyH_take (i := 4) (v := ?_) rfl (by kernel_rfl) (by kernel_rfl) (by kernel_rfl) (fun _ _ _ h => h) (Or.inl ⟨by rfl, ?_⟩) (by assumption) ?_
        rotate_left; focus (intro w hSw; (try dsimp only at hSw); go_simp; try with_reducible rfl)
        (try simp only [List.getElem_toArray, List.getElem_cons_succ, List.getElem_cons_zero, Act.put, List.setIfInBounds_toArray, List.set_cons_zero, List.set_cons_succ])
        refine wpAnyH_ready (rs := [3]) (by kernel_rfl) (by simp) ?_
        refine AllReadyH.cons rfl (fun K hK => ?_) ?_
        · skip
          go_simp
          go_at_call 12
          (with_reducible refine ((HREF.out _ (by exact hH.2.2.1)).1).mono ?_)
          rintro e wb ⟨a12, c12, rfl, hs12, hbb⟩
          refine hK.out _ _ ?_ (fun hH2 => ?_)
          · exact hH.below hbb HB0.out HB2.out
          clear hK K hH
          have hH := hH2; clear hH2
          (try simp only [List.getElem_toArray, List.getElem_cons_succ, List.getElem_cons_zero, Act.put, List.setIfInBounds_toArray, List.set_cons_zero, List.set_cons_succ])
          refine wpAnyH_ready (rs := [5]) (by kernel_rfl) (by simp) ?_
          refine AllReadyH.cons rfl (fun K hK => ?_) ?_
          · skip
            go_simp
            go_at_call 13
            (with_reducible refine ((HREF.out _ (by exact hH.2.2.1)).2).mono ?_)
            rintro e wc ⟨a13, c13, rfl, hs13, hbc⟩
            refine hK.out _ _ ?_ (fun hH2 => ?_)
            · exact hH.below hbc HB0.out HB2.out
            clear hK K hH
            have hH := hH2; clear hH2
            (try simp only [List.getElem_toArray, List.getElem_cons_succ, List.getElem_cons_zero, Act.put, List.setIfInBounds_toArray, List.set_cons_zero, List.set_cons_succ])
            refine wpAnyH_ready (rs := [6]) (by kernel_rfl) (by simp) ?_
            refine AllReadyH.cons rfl (fun K hK => ?_) ?_
            · skip
              go_simp
              go_at_call 11
              (with_reducible refine (strsR_same _ _ _ _ _ _ _ _ (Nat.le_refl _) ((hs12.kept hbc).mono hbc.size) hs13).mono ?_)
              rintro e wd ⟨rfl, hbd⟩
              rw [eqL_refl strEq _ (fun s _ => by simp [strEq])]
              have hall : Below W.heap.size W wd := hba2.trans ((hbb.trans ((hbc.trans (hbd.mono hbc.size)).mono hbb.size)).mono hba2.size)
              have zR := (hall.block _ (lt_of_block HRW.out.y2)).trans HRW.out.y2
              have cR := cells_of zR 0
              refine hK.out _ _ ?_ (fun hH2 => ?_)
              · exact hH.below hbd HB0.out HB2.out
              clear hK K hH
              have hH := hH2; clear hH2
              (try simp only [List.getElem_toArray, List.getElem_cons_succ, List.getElem_cons_zero, Act.put, List.setIfInBounds_toArray, List.set_cons_zero, List.set_cons_succ])
              refine wpAnyH_take (i := 7) (v := ?_) rfl (by kernel_rfl) (by kernel_rfl) (by kernel_rfl) (fun _ _ _ h => h) (Or.inl ⟨by rfl, ?_⟩) (by assumption) ?_
              rotate_left; focus (intro w hSw; (try dsimp only at hSw); go_simp; try with_reducible rfl)
              (try simp only [List.getElem_toArray, List.getElem_cons_succ, List.getElem_cons_zero, Act.put, List.setIfInBounds_toArray, List.set_cons_zero, List.set_cons_succ])
              refine wpAnyH_ready (rs := [8]) (by kernel_rfl) (by simp) ?_
              refine AllReadyH.cons rfl (fun K hK => ?_) ?_
              · skip
                go_simp
                refine hK.out _ _ ?_ (fun hH2 => ?_)
                · exact hH.set (by omega) (by omega) HB0.out
                clear hK K hH
                have hH := hH2; clear hH2
                (try simp only [List.getElem_toArray, List.getElem_cons_succ, List.getElem_cons_zero, Act.put, List.setIfInBounds_toArray, List.set_cons_zero, List.set_cons_succ])
                refine wpAnyH_done (by kernel_rfl) ?_ _
                clear hH
                refine calmQ_end ?_
                have zS : (wd.setCell ⟨w.heap.size + 1 + 1, 0, none⟩ (.bool true)).heap[w.heap.size + 1 + 1]? = some (.cells #[.bool true] 4 (0, 0)) := set_same zR
                have dd : ∀ D ∈ [D2, D1], w.heap.size ≤ D ∧ D ≠ w.heap.size + 1 + 1 ∧ (wd.setCell ⟨w.heap.size + 1 + 1, 0, none⟩ (.bool true)).heap[D]? = some (.deferred (some [])) := fun D hD => by
                  obtain ⟨h1, h2⟩ := HDEF.out.1 D hD
                  have h3 := (hall.block _ (lt_of_block h2)).trans h2
                  have h4 : D ≠ w.heap.size + 1 + 1 := fun e => by rw [e, zR] at h3; cases h3
                  exact ⟨h1, h4, ((gset wd (w.heap.size + 1 + 1) 0 (.bool true)).block D (lt_of_block h3) (fun e => h4 (Option.some.inj e))).trans h3⟩
                have hbS : Below w.heap.size w (wd.setCell ⟨w.heap.size + 1 + 1, 0, none⟩ (.bool true)) := (HRW.out.bel.trans (hall.mono HRW.out.bel.size)).setCell (p := ⟨w.heap.size + 1 + 1, 0, none⟩) (by show w.heap.size ≤ w.heap.size + 1 + 1; omega) _
                have hne : D2 ≠ D1 := by have := HDEF.out.2; simp at this; exact this
                generalize wd.setCell ⟨w.heap.size + 1 + 1, 0, none⟩ (.bool true) = wz at zS dd hbS ⊢
                have HF := Lib.hid (marks_two (P := Tryd.prog) dd hne zS hbS)
                clear zS dd hbS hne hall zR cR hba hba2 hbb hbc hbd hs12 hs13
                gi_wp2
                refine ⟨by simp, .inl ⟨_, _, rfl, HF.out.1, ⟨by simp, .inl ⟨_, _, rfl, HF.out.2.1, ?_⟩⟩⟩⟩
                refine ⟨.bool true, ?_, rfl, HF.out.2.2.2⟩
                have cF := HF.out.2.2.1
                rw [results_cell1 rfl]
                go_simp
              exact AllReadyH.nil
            exact AllReadyH.nil
          exact AllReadyH.nil
        exact AllReadyH.nil
      exact AllReadyH.nil
end Go.Proofs.YtigdibglkejciaaDoor.Ex
