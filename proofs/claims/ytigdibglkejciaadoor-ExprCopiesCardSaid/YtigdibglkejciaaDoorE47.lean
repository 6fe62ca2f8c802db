/-
  Spoil: what it turns, and what it needs.
-/
import Derived.Test.YtigdibglkejciaaDoorE46
namespace Go.Proofs.YtigdibglkejciaaDoor.Ex
open Go.RowKit Go
set_option linter.unusedSimpArgs false

/-- What spoil turns, from block lo on: texts of paths, names of pairs, numbers of kids. -/
structure Sp (lo : Nat) (w w' : World) : Prop where
  bel : Below lo w w'
  s : ∀ g, blk w 9 g → blk w' 9 g ∧ ∀ o, (w.cell? ⟨g, o, none⟩).isSome = true → (w'.cell? ⟨g, o, none⟩).isSome = true
  p : ∀ g, blk w 46 g → blk w' 46 g ∧ ∀ o, (o % 8 ≠ 0 → w'.cell? ⟨g, o, none⟩ = w.cell? ⟨g, o, none⟩) ∧ ((w.cell? ⟨g, o, none⟩).isSome = true → (w'.cell? ⟨g, o, none⟩).isSome = true)
  k : ∀ g, blk w 26 g → blk w' 26 g ∧ ∀ o, (o % 7 ≠ 0 → w'.cell? ⟨g, o, none⟩ = w.cell? ⟨g, o, none⟩) ∧ ∀ z, w.cell? ⟨g, o, none⟩ = some (.int .i64 z) → ∃ z', w'.cell? ⟨g, o, none⟩ = some (.int .i64 z')
theorem Sp.trans {lo : Nat} {a b c : World} (h : Sp lo a b) (k : Sp lo b c) : Sp lo a c where
  bel := h.bel.trans k.bel
  s := fun g hg => by
    obtain ⟨h1, h2⟩ := h.s g hg
    obtain ⟨k1, k2⟩ := k.s g h1
    exact ⟨k1, fun o ho => k2 o (h2 o ho)⟩
  p := fun g hg => by
    obtain ⟨h1, h2⟩ := h.p g hg
    obtain ⟨k1, k2⟩ := k.p g h1
    exact ⟨k1, fun o => ⟨fun ho => ((k2 o).1 ho).trans ((h2 o).1 ho), fun ho => (k2 o).2 ((h2 o).2 ho)⟩⟩
  k := fun g hg => by
    obtain ⟨h1, h2⟩ := h.k g hg
    obtain ⟨k1, k2⟩ := k.k g h1
    exact ⟨k1, fun o => ⟨fun ho => ((k2 o).1 ho).trans ((h2 o).1 ho), fun z hz => by obtain ⟨z', hz'⟩ := (h2 o).2 z hz; exact (k2 o).2 z' hz'⟩⟩
theorem Sp.of_below {lo : Nat} {a b : World} (h : Below a.heap.size a b) (hlo : lo ≤ a.heap.size) : Sp lo a b where
  bel := h.mono hlo
  s := fun g hg => ⟨hg.below h hg.lt, fun o ho => by rw [h.cell (p := ⟨g, o, none⟩) hg.lt]; exact ho⟩
  p := fun g hg => ⟨hg.below h hg.lt, fun o => ⟨fun _ => h.cell (p := ⟨g, o, none⟩) hg.lt, fun ho => by rw [h.cell (p := ⟨g, o, none⟩) hg.lt]; exact ho⟩⟩
  k := fun g hg => ⟨hg.below h hg.lt, fun o => ⟨fun _ => h.cell (p := ⟨g, o, none⟩) hg.lt, fun z hz => ⟨z, (h.cell (p := ⟨g, o, none⟩) hg.lt).trans hz⟩⟩⟩
theorem Sp.refl {lo : Nat} {a : World} (hlo : lo ≤ a.heap.size) : Sp lo a a := Sp.of_below (Below.refl _ _) hlo
theorem some_set {w : World} {b o b' o' : Nat} {u : Value} (h : (w.cell? ⟨b', o', none⟩).isSome = true) : ((w.setCell ⟨b, o, none⟩ u).cell? ⟨b', o', none⟩).isSome = true := by
  by_cases e : b = b' ∧ o = o'
  · obtain ⟨rfl, rfl⟩ := e
    obtain ⟨x, hx⟩ := Option.isSome_iff_exists.1 h
    rw [World.cell?_setCell_same _ _ _ hx]; rfl
  · rw [cell_set_ne _ _ _ _ _ _ (by omega)]; exact h
theorem Sp.setS {lo : Nat} {w : World} {g o : Nat} {u : Value} (hg : blk w 9 g) (hlo : lo ≤ g) : Sp lo w (w.setCell ⟨g, o, none⟩ u) where
  bel := (Below.refl _ _).setCell (p := ⟨g, o, none⟩) hlo _
  s := fun g' hg' => ⟨hg'.setCell _ _, fun o' ho => some_set ho⟩
  p := fun g' hg' => ⟨hg'.setCell _ _, fun o' => ⟨fun _ => cell_set_ne _ _ _ _ _ _ (Or.inl (fun e => by rw [e] at hg; cases hg.uniq hg')), fun ho => some_set ho⟩⟩
  k := fun g' hg' => ⟨hg'.setCell _ _, fun o' => by
    have e := cell_set_ne w g o g' o' u (Or.inl (fun e => by rw [e] at hg; cases hg.uniq hg'))
    exact ⟨fun _ => e, fun z hz => ⟨z, e.trans hz⟩⟩⟩
theorem Sp.setP {lo : Nat} {w : World} {g i : Nat} {u : Value} (hg : blk w 46 g) (hlo : lo ≤ g) : Sp lo w (w.setCell ⟨g, i * 8, none⟩ u) where
  bel := (Below.refl _ _).setCell (p := ⟨g, i * 8, none⟩) hlo _
  s := fun g' hg' => ⟨hg'.setCell _ _, fun o' ho => some_set ho⟩
  p := fun g' hg' => ⟨hg'.setCell _ _, fun o' => ⟨fun ho => cell_set_ne _ _ _ _ _ _ (Or.inr (fun e => by omega)), fun ho => some_set ho⟩⟩
  k := fun g' hg' => ⟨hg'.setCell _ _, fun o' => by
    have e := cell_set_ne w g (i * 8) g' o' u (Or.inl (fun e => by rw [e] at hg; cases hg.uniq hg'))
    exact ⟨fun _ => e, fun z hz => ⟨z, e.trans hz⟩⟩⟩
theorem Sp.setK {lo : Nat} {w : World} {g i : Nat} {q : Int} (hg : blk w 26 g) (hlo : lo ≤ g) : Sp lo w (w.setCell ⟨g, i * 7, none⟩ (.int .i64 q)) where
  bel := (Below.refl _ _).setCell (p := ⟨g, i * 7, none⟩) hlo _
  s := fun g' hg' => ⟨hg'.setCell _ _, fun o' ho => some_set ho⟩
  p := fun g' hg' => ⟨hg'.setCell _ _, fun o' => ⟨fun _ => cell_set_ne _ _ _ _ _ _ (Or.inl (fun e => by rw [e] at hg; cases hg.uniq hg')), fun ho => some_set ho⟩⟩
  k := fun g' hg' => ⟨hg'.setCell _ _, fun o' => ⟨fun ho => cell_set_ne _ _ _ _ _ _ (Or.inr (fun e => by omega)), fun z hz => by
    by_cases e : g = g' ∧ i * 7 = o'
    · obtain ⟨rfl, rfl⟩ := e
      exact ⟨q, World.cell?_setCell_same _ _ _ hz⟩
    · exact ⟨z, (cell_set_ne _ _ _ _ _ _ (by omega)).trans hz⟩⟩⟩
/-- What spoil needs: where the slices lie. -/
def Shape (W : World) (lo : Nat) : (n : Nat) → V7 → Prop
  | 0, _ => False
  | n + 1, v => (0 < v.pl → ∃ g, v.pa = some ⟨g, 0, none⟩ ∧ lo ≤ g ∧ blk W 9 g ∧ ∀ i, i < v.pl → (W.cell? ⟨g, i, none⟩).isSome = true) ∧
    (0 < v.ql → ∃ g, v.qa = some ⟨g, 0, none⟩ ∧ lo ≤ g ∧ blk W 46 g ∧ ∀ i, i < v.ql → (W.cell? ⟨g, i * 8, none⟩).isSome = true ∧ ∃ u, EAt W g (i * 8 + 1) u ∧ Shape W lo n u) ∧
    (0 < v.kl → ∃ g, v.ka = some ⟨g, 0, none⟩ ∧ lo ≤ g ∧ blk W 26 g ∧ ∀ i, i < v.kl → ∃ u, EAt W g (i * 7) u ∧ Shape W lo n u) ∧ v.pl ≤ maxLen ∧ v.ql ≤ maxLen ∧ v.kl ≤ maxLen
/-- The shape hangs on the slices alone. -/
theorem Shape.op {W : World} {lo : Nat} {n : Nat} {v : V7} {z : Int} (h : Shape W lo n v) : Shape W lo n { v with op := z } := by
  cases n with
  | zero => exact h
  | succ n => exact h
theorem Shape.sp {lo : Nat} {w w' : World} (hs : Sp lo w w') : ∀ (n : Nat) (v : V7), Shape w lo n v → Shape w' lo n v
  | 0, _, h => h
  | n + 1, v, h => by
    obtain ⟨h1, h2, h3, h4⟩ := h
    refine ⟨fun hp => ?_, fun hp => ?_, fun hp => ?_, h4⟩
    · obtain ⟨g, e, hg, hb, hc⟩ := h1 hp
      obtain ⟨k1, k2⟩ := hs.s g hb
      exact ⟨g, e, hg, k1, fun i hi => k2 i (hc i hi)⟩
    · obtain ⟨g, e, hg, hb, hc⟩ := h2 hp
      obtain ⟨k1, k2⟩ := hs.p g hb
      refine ⟨g, e, hg, k1, fun i hi => ?_⟩
      obtain ⟨hs0, u, hE, hS⟩ := hc i hi
      obtain ⟨a0, a1, a2, a3, a4, a5, a6⟩ := hE
      exact ⟨(k2 _).2 hs0, u, ⟨((k2 _).1 (by omega)).trans a0, ((k2 _).1 (by omega)).trans a1, ((k2 _).1 (by omega)).trans a2, ((k2 _).1 (by omega)).trans a3, ((k2 _).1 (by omega)).trans a4, ((k2 _).1 (by omega)).trans a5, ((k2 _).1 (by omega)).trans a6⟩, Shape.sp hs n _ hS⟩
    · obtain ⟨g, e, hg, hb, hc⟩ := h3 hp
      obtain ⟨k1, k2⟩ := hs.k g hb
      refine ⟨g, e, hg, k1, fun i hi => ?_⟩
      obtain ⟨u, hE, hS⟩ := hc i hi
      obtain ⟨a0, a1, a2, a3, a4, a5, a6⟩ := hE
      obtain ⟨z', hz'⟩ := (k2 _).2 _ a0
      exact ⟨{ u with op := z' }, ⟨hz', ((k2 _).1 (by omega)).trans a1, ((k2 _).1 (by omega)).trans a2, ((k2 _).1 (by omega)).trans a3, ((k2 _).1 (by omega)).trans a4, ((k2 _).1 (by omega)).trans a5, ((k2 _).1 (by omega)).trans a6⟩, Shape.op (Shape.sp hs n _ hS)⟩
theorem ExOwn.shape {W : World} {lo : Nat} : ∀ (n : Nat) (v : V7) (x : Ex n), ExOwn W lo n v x → Shape W lo n v
  | 0, _, x, _ => x.elim
  | n + 1, v, x, h => by
    obtain ⟨-, -, -, -, h5, h6, h7⟩ := h
    have e5 := h5.1
    have e6 := h6.1
    have e7 := h7.1
    refine ⟨fun hp => ?_, fun hp => ?_, fun hp => ?_, by rw [e5]; exact h5.2.1, by rw [e6]; exact h6.2.1, by rw [e7]; exact h7.2.1⟩
    · obtain ⟨g, off, e, hq, hc⟩ := h5.2.2 (by omega)
      obtain ⟨rfl, hg, hb⟩ := hq
      exact ⟨g, e, hg, hb, fun i hi => by have := hc i (by omega); rw [Nat.zero_add] at this; rw [this]; rfl⟩
    · obtain ⟨g, off, e, hq, hc⟩ := h6.2.2 (by omega)
      obtain ⟨rfl, hg, hb⟩ := hq
      refine ⟨g, e, hg, hb, fun i hi => ?_⟩
      obtain ⟨u, c, hE, hI⟩ := hc i (by omega)
      rw [Nat.zero_add] at c hE
      exact ⟨by rw [c]; rfl, u, hE, ExOwn.shape n u _ hI⟩
    · obtain ⟨g, off, e, hq, hc⟩ := h7.2.2 (by omega)
      obtain ⟨rfl, hg, hb⟩ := hq
      refine ⟨g, e, hg, hb, fun i hi => ?_⟩
      obtain ⟨u, hE, hI⟩ := hc i (by omega)
      rw [Nat.zero_add] at hE
      exact ⟨u, hE, ExOwn.shape n u _ hI⟩
end Go.Proofs.YtigdibglkejciaaDoor.Ex
