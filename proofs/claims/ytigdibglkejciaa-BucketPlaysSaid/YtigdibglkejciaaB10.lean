/-
  Drop: what holds at each round.
-/
import Derived.Test.YtigdibglkejciaaB9
namespace Go.Proofs.Ytigdibglkejciaa.Buck
open Go.RowKit Go
set_option linter.unusedSimpArgs false

def bkD (bk : Int → List Int) (id : Int) (k : Nat) : Int → List Int := fun j => if 0 ≤ j ∧ j < (k : Int) then keepZ (bk j) id else bk j
def gone (bk : Int → List Int) (id : Int) : Nat → Int
  | 0 => 0
  | k + 1 => gone bk id k + ((bk k).length - (keepZ (bk k) id).length)
theorem bkD_zero (bk : Int → List Int) (id : Int) : bkD bk id 0 = bk := by
  funext j
  unfold bkD
  rw [if_neg (by omega)]
theorem bkD_at (bk : Int → List Int) (id : Int) (k : Nat) : bkD bk id k (k : Int) = bk k := by
  unfold bkD
  rw [if_neg (by omega)]
theorem bkD_succ (bk : Int → List Int) (id : Int) (k : Nat) : bkD bk id (k + 1) = updB (bkD bk id k) k (keepZ (bk k) id) := by
  funext j
  unfold bkD updB
  by_cases e : j = (k : Int)
  · subst e
    rw [if_pos (show 0 ≤ (k : Int) ∧ (k : Int) < ((k + 1 : Nat) : Int) by omega), if_pos rfl]
  · rw [if_neg e]
    show _ = if 0 ≤ j ∧ j < (k : Int) then keepZ (bk j) id else bk j
    by_cases h : 0 ≤ j ∧ j < (k : Int)
    · rw [if_pos h, if_pos (show 0 ≤ j ∧ j < ((k + 1 : Nat) : Int) by omega)]
    · rw [if_neg h, if_neg (show ¬ (0 ≤ j ∧ j < ((k + 1 : Nat) : Int)) by omega)]
theorem keepZ_len (zs : List Int) (id : Int) : (keepZ zs id).length ≤ zs.length := List.length_filter_le _ _
theorem gone_bounds (bk : Int → List Int) (id : Int) (hb : ∀ j, (bk j).length ≤ 1000) : ∀ k : Nat, 0 ≤ gone bk id k ∧ gone bk id k ≤ 1000 * k
  | 0 => by simp [gone]
  | k + 1 => by
    have := gone_bounds bk id hb k
    have h1 := keepZ_len (bk k) id
    have h2 := hb k
    simp only [gone]
    omega
/-- Ahead of round k. -/
structure DI (w0 : World) (base bx mb M : Nat) (many : Int) (N : Nat) (bk : Int → List Int) (V0 : Int → Value) (id : Int) (k : Nat) (V : Int → Value) (A : World) : Prop where
  idx : Idx A base bx mb M many (N + k) (bkD bk id k) V
  turn : Turn (foot bx mb bk V0) w0 A
  far : ∀ b, foot bx mb (bkD bk id k) V b → foot bx mb bk V0 b ∨ w0.heap.size + 4 ≤ b
  x0 : A.heap[w0.heap.size]? = some (.cells #[.pointer (some ⟨bx, 0, none⟩)] 23 (0, 0))
  x1 : A.heap[w0.heap.size + 1]? = some (.cells #[.int .i64 id] 3 (0, 0))
  x2 : A.heap[w0.heap.size + 2]? = some (.cells #[.int .i64 (gone bk id k)] 3 (0, 0))
  x3 : A.heap[w0.heap.size + 3]? = some (.cells #[.pointer (some ⟨bx, 0, none⟩)] 23 (0, 0))
theorem row_cells {w : World} {base : Nat} {T : TypeId} {size n b : Nat} {V : Value} {xs : List Value} (h : w.ownsRow base T size V n xs) (e : V.ownBlock = some b) : ∃ cur, w.heap[b]? = some (.cells cur T (0, 0)) := by
  obtain ⟨_, ⟨rfl, _⟩ | ⟨g, cap, cur, rfl, _, hh, _⟩⟩ := h
  · cases e
  · cases e; exact ⟨_, hh⟩
theorem foot_cells {w : World} {base bx mb : Nat} {slots many : Int} {N : Nat} {bk : Int → List Int} {V : Int → Value} (h : Idx w base bx mb slots many N bk V) {b : Nat} (hf : foot bx mb bk V b) : b < base ∨ ∃ cur T, w.heap[b]? = some (.cells cur T (0, 0)) := by
  rcases hf with rfl | rfl | ⟨k, hk, e⟩
  · exact Or.inl h.order.1
  · exact Or.inl h.order.2.1
  · obtain ⟨cur, h⟩ := row_cells (h.rows k hk) e
    exact Or.inr ⟨cur, _, h⟩
theorem foot_lt {w : World} {base bx mb : Nat} {slots many : Int} {N : Nat} {bk : Int → List Int} {V : Int → Value} (h : Idx w base bx mb slots many N bk V) {b : Nat} (hf : foot bx mb bk V b) : b < w.heap.size := by
  rcases hf with rfl | rfl | ⟨k, hk, e⟩
  · exact lt_of_block h.box
  · exact h.map.lt
  · exact ((h.rows k hk).lt _ e).2
theorem DI.kept {w0 A W : World} {base bx mb M : Nat} {many : Int} {N : Nat} {bk : Int → List Int} {V0 V : Int → Value} {id : Int} {k : Nat} {row : Option Nat} (hbase : base ≤ w0.heap.size) (h : DI w0 base bx mb M many N bk V0 id k V A) (hg : A.grownBy W row) (hr : ∀ r, row = some r → w0.heap.size + 4 ≤ r ∧ ∃ o : Obj, A.heap[r]? = some o ∧ o.isCells = false) : DI w0 base bx mb M many N bk V0 id k V W := by
  have hs := h.turn.size
  have hl3 := lt_of_block h.x3
  have keep : ∀ b, b < A.heap.size → b < w0.heap.size + 4 → W.heap[b]? = A.heap[b]? := fun b hb hlt => hg.block b hb (fun e => by have := (hr b e.symm).1; omega)
  have hsz := hg.size
  refine ⟨h.idx.kept hg (fun b e hf => ?_), ⟨hg.os.trans h.turn.os, hg.tape.trans h.turn.tape, hg.output.trans h.turn.output, Nat.le_trans hs hsz, fun b hb hn => (keep b (by omega) (by omega)).trans (h.turn.block b hb hn)⟩, h.far, (keep _ (by omega) (by omega)).trans h.x0, (keep _ (by omega) (by omega)).trans h.x1, (keep _ (by omega) (by omega)).trans h.x2, (keep _ (by omega) (by omega)).trans h.x3⟩
  obtain ⟨h1, o, h2, h3⟩ := hr b e
  rcases foot_cells h.idx hf with h4 | ⟨cur, T, h4⟩
  · omega
  · rw [h4] at h2; cases h2; cases h3
theorem DI.start {w0 : World} {base bx mb M : Nat} {many : Int} {N : Nat} {bk : Int → List Int} {V0 : Int → Value} {id : Int} (h : Idx w0 base bx mb M many N bk V0) (_hbase : base ≤ w0.heap.size) :
    DI w0 base bx mb M many N bk V0 id 0 V0 ((((w0.alloc (.cells #[.pointer (some ⟨bx, 0, none⟩)] 23)).alloc (.cells #[.int .i64 id] 3)).alloc (.cells #[.int .i64 0] 3)).alloc (.cells #[.pointer (some ⟨bx, 0, none⟩)] 23)) := by
  have b3 : Below (w0.heap.size + 3) (((w0.alloc (.cells #[.pointer (some ⟨bx, 0, none⟩)] 23)).alloc (.cells #[.int .i64 id] 3)).alloc (.cells #[.int .i64 0] 3)) ((((w0.alloc (.cells #[.pointer (some ⟨bx, 0, none⟩)] 23)).alloc (.cells #[.int .i64 id] 3)).alloc (.cells #[.int .i64 0] 3)).alloc (.cells #[.pointer (some ⟨bx, 0, none⟩)] 23)) := (Below.refl _ _).alloc (by simp only [World.size_alloc]; omega) _
  have b2 : Below (w0.heap.size + 2) ((w0.alloc (.cells #[.pointer (some ⟨bx, 0, none⟩)] 23)).alloc (.cells #[.int .i64 id] 3)) ((((w0.alloc (.cells #[.pointer (some ⟨bx, 0, none⟩)] 23)).alloc (.cells #[.int .i64 id] 3)).alloc (.cells #[.int .i64 0] 3)).alloc (.cells #[.pointer (some ⟨bx, 0, none⟩)] 23)) := ((Below.refl _ _).alloc (by simp only [World.size_alloc]; omega) _).alloc (by simp only [World.size_alloc]; omega) _
  have b1 : Below (w0.heap.size + 1) (w0.alloc (.cells #[.pointer (some ⟨bx, 0, none⟩)] 23)) ((((w0.alloc (.cells #[.pointer (some ⟨bx, 0, none⟩)] 23)).alloc (.cells #[.int .i64 id] 3)).alloc (.cells #[.int .i64 0] 3)).alloc (.cells #[.pointer (some ⟨bx, 0, none⟩)] 23)) := (((Below.refl _ _).alloc (by simp only [World.size_alloc]; omega) _).alloc (by simp only [World.size_alloc]; omega) _).alloc (by simp only [World.size_alloc]; omega) _
  have b0 : Below w0.heap.size w0 ((((w0.alloc (.cells #[.pointer (some ⟨bx, 0, none⟩)] 23)).alloc (.cells #[.int .i64 id] 3)).alloc (.cells #[.int .i64 0] 3)).alloc (.cells #[.pointer (some ⟨bx, 0, none⟩)] 23)) := (((bel1 w0 _).alloc (by simp only [World.size_alloc]; omega) _).alloc (by simp only [World.size_alloc]; omega) _).alloc (by simp only [World.size_alloc]; omega) _
  have n0 := new_cells w0 #[.pointer (some ⟨bx, 0, none⟩)] 23
  have n1 := new_cells (w0.alloc (.cells #[.pointer (some ⟨bx, 0, none⟩)] 23)) #[.int .i64 id] 3
  have n2 := new_cells ((w0.alloc (.cells #[.pointer (some ⟨bx, 0, none⟩)] 23)).alloc (.cells #[.int .i64 id] 3)) #[.int .i64 0] 3
  have n3 := new_cells (((w0.alloc (.cells #[.pointer (some ⟨bx, 0, none⟩)] 23)).alloc (.cells #[.int .i64 id] 3)).alloc (.cells #[.int .i64 0] 3)) #[.pointer (some ⟨bx, 0, none⟩)] 23
  simp only [World.size_alloc] at n1 n2 n3
  refine ⟨?_, Turn.of_below b0, fun b hf => ?_, (b1.block _ (by omega)).trans n0, (b2.block _ (by omega)).trans n1, (b3.block _ (by omega)).trans n2, n3⟩
  · rw [bkD_zero]; exact h.below b0
  · rw [bkD_zero] at hf; exact Or.inl hf
/-- What Each reads ahead of round k. -/
theorem DI.mem {w0 A : World} {base bx mb M : Nat} {many : Int} {N : Nat} {bk : Int → List Int} {V0 V : Int → Value} {id : Int} {k : Nat} (hM : M ≤ 1024) (h : DI w0 base bx mb M many N bk V0 id k V A) : Mem (w0.heap.size + 3) bx mb M (fun k => bk (k : Int)) k A := by
  refine ⟨cells_of h.x3 0, ⟨many, h.idx.box⟩, fun hk => ?_⟩
  have hl := h.idx.map.look_ok (k := (k : Int)) (wf_int (by omega) (by omega))
  rw [bkD_at] at hl
  by_cases hne : bk k = []
  · rw [if_pos hne] at hl
    exact ⟨nilS, by simpa [hne] using hl, fun h => absurd hne h⟩
  · rw [if_neg hne] at hl
    refine ⟨V k, by simpa [hne] using hl, fun _ => ?_⟩
    have := h.idx.rows k (by rw [bkD_at]; exact hne)
    rw [bkD_at] at this
    exact row_zero this
theorem keepZ_nil (id : Int) : keepZ [] id = [] := rfl
theorem DI.skip {w0 A : World} {base bx mb M : Nat} {many : Int} {N : Nat} {bk : Int → List Int} {V0 V : Int → Value} {id : Int} {k : Nat} (h : DI w0 base bx mb M many N bk V0 id k V A) (hn : bk k = []) : DI w0 base bx mb M many N bk V0 id (k + 1) V A := by
  have e : bkD bk id (k + 1) = bkD bk id k := by
    rw [bkD_succ, hn, keepZ_nil]
    funext j
    unfold updB
    by_cases e : j = (k : Int)
    · subst e; rw [if_pos rfl, bkD_at, hn]
    · rw [if_neg e]
  have eg : gone bk id (k + 1) = gone bk id k := by simp [gone, hn, keepZ]
  refine ⟨?_, h.turn, by rw [e]; exact h.far, h.x0, h.x1, by rw [eg]; exact h.x2, h.x3⟩
  rw [e]
  exact { h.idx with map := h.idx.map.grow (by omega) }
theorem row_base {w : World} {base base' : Nat} {T : TypeId} {size n g cap : Nat} {xs : List Value} (h : w.ownsRow base T size (.slice (some ⟨g, 0, none⟩) n cap) n xs) (hg : base' ≤ g) : w.ownsRow base' T size (.slice (some ⟨g, 0, none⟩) n cap) n xs := by
  obtain ⟨hx, ⟨h, _⟩ | ⟨g', cap', cur, e, _, h⟩⟩ := h
  · cases h
  · cases e; exact ⟨hx, .inr ⟨g, cap, cur, rfl, hg, h⟩⟩
/-- A round. -/
theorem DI.step {w0 A W W1 W2 W3 : World} {base bx mb M : Nat} {many : Int} {N : Nat} {bk : Int → List Int} {V0 V : Int → Value} {id : Int} {k g cap : Nat} (hbase : base ≤ w0.heap.size) (h0 : Idx w0 base bx mb M many N bk V0) (h : DI w0 base bx mb M many N bk V0 id k V A) (hW : DI w0 base bx mb M many N bk V0 id k V W)
    (hAg : A.heap.size ≤ g) (hcl : ∃ cur T, W.heap[g]? = some (.cells cur T (0, 0))) (g1 : W.grownBy W1 (some g)) (hrow : W1.ownsRow 0 3 1 (.slice (some ⟨g, 0, none⟩) (keepZ (bk k) id).length cap) (keepZ (bk k) id).length (ints (keepZ (bk k) id)))
    (g2 : W1.grownBy W2 (some (w0.heap.size + 2))) (x2 : W2.heap[w0.heap.size + 2]? = some (.cells #[.int .i64 (gone bk id (k + 1))] 3 (0, 0)))
    (hmap : MapAt W3 mb (N + k + 1) (upd (fun j => if bkD bk id k j = [] then none else some (V j)) k (if keepZ (bk k) id = [] then none else some (.slice (some ⟨g, 0, none⟩) (keepZ (bk k) id).length cap)))) (g3 : W2.grownBy W3 (some mb)) :
    DI w0 base bx mb M many N bk V0 id (k + 1) (fun j => if j = (k : Int) then .slice (some ⟨g, 0, none⟩) (keepZ (bk k) id).length cap else V j) W3 ∧ KeepsFrom (w0.heap.size + 4) W W3 := by
  obtain ⟨o1, o2, o3⟩ := h0.order
  have hA := h.turn.size
  have hl3 := lt_of_block h.x3
  have hl3' := lt_of_block hW.x3
  have s1 := g1.size
  have s2 := g2.size
  have s3 := g3.size
  have low : ∀ b, foot bx mb bk V0 b → b < w0.heap.size := fun b hf => foot_lt h0 hf
  have hg2 : g ≠ w0.heap.size + 2 := by omega
  have hg3 : g ≠ mb := by omega
  -- blocks through the round
  have keep : ∀ b, b < W.heap.size → b ≠ g → b ≠ w0.heap.size + 2 → b ≠ mb → W3.heap[b]? = W.heap[b]? := fun b hb e1 e2 e3 =>
    (g3.block b (by omega) (fun e => e3 (by cases e; rfl))).trans ((g2.block b (by omega) (fun e => e2 (by cases e; rfl))).trans (g1.block b hb (fun e => e1 (by cases e; rfl))))
  have hrows : ∀ j, j ≠ (k : Int) → bkD bk id k j ≠ [] → W3.ownsRow base 3 1 (V j) (bkD bk id k j).length (ints (bkD bk id k j)) := fun j hj hne => by
    have hj0 := hW.idx.rows j hne
    have hlt := fun b e => (h.idx.rows j hne).lt b e
    have n1 : (V j).ownBlock ≠ some g := fun e => by have := (hlt g e).2; omega
    have n2 : (V j).ownBlock ≠ some (w0.heap.size + 2) := fun e => by
      rcases h.far _ (Or.inr (Or.inr ⟨j, hne, e⟩)) with hf | hf
      · have := low _ hf; omega
      · omega
    have n3 : (V j).ownBlock ≠ some mb := fun e => by have := (hlt mb e).1; omega
    exact ((hj0.kept g1 (Or.inr n1)).kept g2 (Or.inr n2)).kept g3 (Or.inr n3)
  refine ⟨⟨?_, ?_, ?_, ?_, ?_, ?_, ?_⟩, ?_⟩
  · rw [bkD_succ]
    refine hW.idx.put ?_ (by rw [Nat.add_assoc] at hmap; exact hmap) (fun hne => ?_) hrows (fun _ j hj hne e => ?_)
    · exact (keep bx (by omega) (by omega) (by omega) o3).trans hW.idx.box
    · have r1 := (hrow.kept g2 (Or.inr (fun e => hg2 (Option.some.inj e)))).kept g3 (Or.inr (fun e => hg3 (Option.some.inj e)))
      exact row_base r1 (by omega)
    · have := ((h.idx.rows j hne).lt g e.symm).2
      omega
  · exact ⟨g3.os.trans (g2.os.trans (g1.os.trans hW.turn.os)), g3.tape.trans (g2.tape.trans (g1.tape.trans hW.turn.tape)), g3.output.trans (g2.output.trans (g1.output.trans hW.turn.output)), by omega,
      fun b hb hn => (keep b (by omega) (by omega) (by omega) (fun e => hn (Or.inr (Or.inl e)))).trans (hW.turn.block b hb hn)⟩
  · rintro b (e | e | ⟨j, hj, e⟩)
    · exact Or.inl (Or.inl e)
    · exact Or.inl (Or.inr (Or.inl e))
    · by_cases ej : j = (k : Int)
      · simp only [ej, if_true] at e
        obtain rfl : g = b := by cases e; rfl
        right; omega
      · simp only [ej, if_false] at e
        rw [bkD_succ] at hj
        unfold updB at hj
        rw [if_neg ej] at hj
        exact h.far b (Or.inr (Or.inr ⟨j, hj, e⟩))
  · exact (keep _ (by omega) (by omega) (by omega) (by omega)).trans hW.x0
  · exact (keep _ (by omega) (by omega) (by omega) (by omega)).trans hW.x1
  · exact (g3.block _ (by omega) (fun e => by cases e; omega)).trans x2
  · exact (keep _ (by omega) (by omega) (by omega) (by omega)).trans hW.x3
  · obtain ⟨cur, T, hcur⟩ := hcl
    refine ((KeepsOthers.from (KeepsOthers.of_grownBy g1 ?_) _).trans (KeepsFrom.of_grownBy g2 ?_)).trans (KeepsFrom.of_grownBy g3 ?_)
    · intro j o e hj; cases e; rw [hcur] at hj; cases hj; rfl
    · intro j e; cases e; omega
    · intro j e; cases e; omega
end Go.Proofs.Ytigdibglkejciaa.Buck
