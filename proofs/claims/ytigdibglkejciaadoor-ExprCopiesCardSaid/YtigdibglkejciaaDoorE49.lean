/-
  Expressions that are made by appending: the plain facts.
-/
import Derived.Test.YtigdibglkejciaaDoorE46
import Derived.Test.YtigdibglkejciaaDoorE12
import Derived.Deep.AppendLies
namespace Go.Proofs.YtigdibglkejciaaDoor.Ex
open Go.RowKit Go
set_option linter.unusedSimpArgs false

/-- From block lo on, and not the row of V. -/
def nq (lo : Nat) (w : World) (V : Value) (_ : TypeId) (b _ : Nat) : Prop := lo ≤ b ∧ b < w.heap.size ∧ V.ownBlock ≠ some b
/-- From block lo on. -/
def rng (lo : Nat) (w : World) (_ : TypeId) (b _ : Nat) : Prop := lo ≤ b ∧ b < w.heap.size
theorem ownsRow_at {w : World} {base : Nat} {T : TypeId} {size : Nat} {v : Value} {n : Nat} {xs : List Value} (h : w.ownsRow base T size v n xs) (hn : 0 < n) :
    ∃ g cap, v = .slice (some ⟨g, 0, none⟩) n cap ∧ base ≤ g ∧ blk w T g ∧ ∀ j u, xs[j]? = some u → w.cell? ⟨g, j, none⟩ = some u := by
  have hc : ∀ g, v.ownBlock = some g → _ := fun g hg => h.cells hg
  obtain ⟨_, h0 | ⟨g, cap, cur, rfl, hb, hh, _⟩⟩ := h
  · omega
  · refine ⟨g, cap, rfl, hb, ⟨cur, hh⟩, fun j u hj => ?_⟩
    have := hc g rfl j u hj
    rwa [Addr.add_lit, Nat.zero_add] at this
theorem ownsRow_slice {w : World} {base : Nat} {T : TypeId} {size : Nat} {v : Value} {n : Nat} {xs : List Value} (h : w.ownsRow base T size v n xs) : ∃ a cap, v = .slice a n cap := by
  obtain ⟨_, ⟨rfl, h0⟩ | ⟨g, cap, cur, rfl, _⟩⟩ := h
  · subst h0; exact ⟨none, 0, rfl⟩
  · exact ⟨_, cap, rfl⟩
/-- The first k elements of L have been appended to V. -/
def AL (w : World) (lo : Nat) (T : TypeId) (sz n k : Nat) (V : Value) (ys : List Value) (L : List (List Value × Ex n)) : Prop := w.ownsRow lo T sz V k ys ∧
  ∀ l (hl : l < L.length), l < k → ∃ v : V7, (∀ r u, (L[l].1 ++ v.cells)[r]? = some u → ys[l * sz + r]? = some u) ∧ ExQ w (nq lo w V) n v L[l].2
theorem AL.zero (w : World) (lo : Nat) (T : TypeId) (sz n : Nat) (L : List (List Value × Ex n)) : AL w lo T sz n 0 (.slice none 0 0) [] L := ⟨World.ownsRow_nil _ _ _ _, fun l _ h => absurd h (by omega)⟩
theorem AL.step {w w' : World} {lo : Nat} {T : TypeId} {sz n k : Nat} {V V' : Value} {ys : List Value} {L : List (List Value × Ex n)} (h : AL w lo T sz n k V ys L) (hk : k < L.length) {v : V7}
    (ho : w'.ownsRow lo T sz V' (k + 1) (ys ++ (L[k].1 ++ v.cells))) (hv : ExQ w' (nq lo w' V') n v L[k].2)
    (hq : ∀ b, lo ≤ b → b < w.heap.size → V.ownBlock ≠ some b → (∀ o, w'.cell? ⟨b, o, none⟩ = w.cell? ⟨b, o, none⟩) ∧ V'.ownBlock ≠ some b) (hs : w.heap.size ≤ w'.heap.size) :
    AL w' lo T sz n (k + 1) V' (ys ++ (L[k].1 ++ v.cells)) L := by
  have hlen : ys.length = k * sz := h.1.1
  refine ⟨ho, fun l hl hlt => ?_⟩
  by_cases e : l = k
  · subst e
    refine ⟨v, fun r u hr => ?_, hv⟩
    rw [List.getElem?_append_right (by omega), show l * sz + r - ys.length = r by omega]; exact hr
  · obtain ⟨v', c, hV⟩ := h.2 l hl (by omega)
    refine ⟨v', fun r u hr => ?_, ExQ.map (fun T' g off hq' => ⟨(hq g hq'.1 hq'.2.1 hq'.2.2).1, hq'.1, Nat.lt_of_lt_of_le hq'.2.1 hs, (hq g hq'.1 hq'.2.1 hq'.2.2).2⟩) n _ _ hV⟩
    have := c r u hr
    rw [List.getElem?_append_left (List.getElem?_eq_some_iff.1 this).1]; exact this
theorem nq_rng {lo n : Nat} {w : World} {V : Value} {v : V7} {x : Ex n} (h : ExQ w (nq lo w V) n v x) : ExQ w (rng lo w) n v x := ExQ.map (fun _ _ _ hq => ⟨fun _ => rfl, hq.1, hq.2.1⟩) n _ _ h
theorem AL.kids {w : World} {lo n c : Nat} {a : Option Addr} {ys : List Value} {l : List (Ex n)} (h : AL w lo 26 7 n l.length (.slice a l.length c) ys (l.map (fun x => ([], x)))) (hm : l.length ≤ maxLen) : KidsQ (ExQ w (rng lo w) n) w (rng lo w) a l.length l := by
  refine ⟨rfl, hm, fun h0 => ?_⟩
  obtain ⟨g, cap', e, hg, hb, hat⟩ := ownsRow_at h.1 h0
  injection e with e1 e2 e3; subst e1
  refine ⟨g, 0, rfl, ⟨hg, hb.lt⟩, fun i hi => ?_⟩
  obtain ⟨v, c, hV⟩ := h.2 i (by simpa using hi) hi
  simp only [List.getElem_map, List.nil_append] at c hV
  refine ⟨v, EAt.of_cells (fun j hj => ?_), nq_rng hV⟩
  have e2 : v.cells[j]? = some (v.cells[j]'(by show j < 7; omega)) := List.getElem?_eq_getElem _
  rw [Nat.zero_add, e2]
  exact hat _ _ (c j _ e2)
theorem AL.pairs {w : World} {lo n c : Nat} {a : Option Addr} {ys : List Value} {l : List (ByteArray × Ex n)} (h : AL w lo 46 8 n l.length (.slice a l.length c) ys (l.map (fun q => ([.string q.1], q.2)))) (hm : l.length ≤ maxLen) : PairsQ (ExQ w (rng lo w) n) w (rng lo w) a l.length l := by
  refine ⟨rfl, hm, fun h0 => ?_⟩
  obtain ⟨g, cap', e, hg, hb, hat⟩ := ownsRow_at h.1 h0
  injection e with e1 e2 e3; subst e1
  refine ⟨g, 0, rfl, ⟨hg, hb.lt⟩, fun i hi => ?_⟩
  obtain ⟨v, c, hV⟩ := h.2 i (by simpa using hi) hi
  simp only [List.getElem_map] at c hV
  refine ⟨v, ?_, EAt.of_cells (fun j hj => ?_), nq_rng hV⟩
  · rw [Nat.zero_add]
    exact hat _ _ (c 0 _ rfl)
  · have e2 : v.cells[j]? = some (v.cells[j]'(by show j < 7; omega)) := List.getElem?_eq_getElem _
    rw [Nat.zero_add, e2, Nat.add_assoc, Nat.add_comm 1 j]
    exact hat _ _ (c (j + 1) _ (by rw [List.singleton_append, List.getElem?_cons_succ]; exact e2))
theorem AL.next {wr w4 w5 : World} {o : Obj} {T : TypeId} {sz lo tB off n j : Nat} {V u : Value} {qs : List Value} {L : List (List Value × Ex n)} {v : V7} {g cap : Nat}
    (h : AL wr lo T sz n j V qs L) (hj : j < L.length) (htB : tB < lo) (hlo : lo ≤ wr.heap.size) (hb4 : Below wr.heap.size wr w4) (hown : ExQ w4 (rng wr.heap.size w4) n v L[j].2)
    (ho5 : w5.ownsRow lo T sz (.slice (some ⟨g, 0, none⟩) (j + 1) cap) (j + 1) (qs ++ (L[j].1 ++ v.cells))) (hg : (w4.alloc o).grownBy w5 V.ownBlock) (hat : V.ownBlock = some g ∨ g = w4.heap.size + 1) :
    AL (w5.setCell ⟨tB, off, none⟩ u) lo T sz n (j + 1) (.slice (some ⟨g, 0, none⟩) (j + 1) cap) (qs ++ (L[j].1 ++ v.cells)) L := by
  have s4 := hb4.size
  have s5 := hg.size
  rw [World.size_alloc] at s5
  have hgt : lo ≤ g := (ho5.lt g rfl).1
  have hVlt := h.1.lt
  have far : ∀ b, b < w4.heap.size → b ≠ tB → V.ownBlock ≠ some b → ∀ o', (w5.setCell ⟨tB, off, none⟩ u).cell? ⟨b, o', none⟩ = w4.cell? ⟨b, o', none⟩ := fun b hb hne hr o' => by
    rw [cell_set_ne _ _ _ _ _ _ (Or.inl (Ne.symm hne)), hg.cell_far ⟨b, o', none⟩ (by show b < (w4.alloc o).heap.size; rw [World.size_alloc]; omega) (Ne.symm hr)]
    exact World.cell?_of_block (Below.heap_alloc w4 o b hb)
  have gne : ∀ b, b < w4.heap.size → V.ownBlock ≠ some b → some g ≠ some b := fun b hb hr e => by
    injection e with e
    rcases hat with hat | hat
    · exact hr (e ▸ hat)
    · omega
  refine AL.step h hj (ownsRow_setCell_other ho5 (by show some g ≠ some tB; intro e; injection e with e; omega) u) ?_ (fun b h1 h2 h3 => ?_) (by rw [World.size_setCell]; omega)
  · refine ExQ.map (fun T' b off' hq => ?_) n _ _ hown
    have hr : V.ownBlock ≠ some b := fun e => by have := (hVlt b e).2; have := hq.1; omega
    exact ⟨far b hq.2 (by have := hq.1; omega) hr, by have := hq.1; omega, by rw [World.size_setCell]; have := hq.2; omega, gne b hq.2 hr⟩
  · refine ⟨fun o' => (far b (by omega) (by omega) h3 o').trans (hb4.cell (p := ⟨b, o', none⟩) h2), gne b (by omega) h3⟩
/-- The world after a round. -/
theorem PL.app {w wc wr w4 w5 : World} {o : Obj} {tB off : Nat} {V u : Value} (hp : PL w wc tB wr) (hb4 : Below wr.heap.size wr w4) (hg : (w4.alloc o).grownBy w5 V.ownBlock) (hV : ∀ k, V.ownBlock = some k → wc.heap.size ≤ k) (ht : w.heap.size ≤ tB) (hw : w.heap.size ≤ wc.heap.size) : PL w wc tB (w5.setCell ⟨tB, off, none⟩ u) := by
  have s4 := hb4.size
  have s5 := hg.size
  have s0 := hp.bel.size
  have s1 := hp.size
  rw [World.size_alloc] at s5
  have b1 : Below w.heap.size w (w4.alloc o) := (hp.bel.trans (hb4.mono s0)).alloc (by omega) o
  have b2 : Below w.heap.size w w5 := b1.grown hg (by rw [World.size_alloc]; omega) (fun k hk => by have := hV k hk; omega)
  refine ⟨b2.setCell ht _, by rw [World.size_setCell]; omega, fun b hb hne => ?_⟩
  rw [Below.heap_setCell w5 ⟨tB, off, none⟩ u b hne, hg.block b (by rw [World.size_alloc]; omega) (fun e => by have := hV b e.symm; omega), Below.heap_alloc w4 o b (by omega), hb4.block b (by omega)]
  exact hp.but b hb hne
/-- The box itself. -/
theorem box_set {w w4 w5 : World} {o : Obj} {row : Option Nat} {t off : Nat} {u : Value} {c : Array Value} {T : TypeId} (hc : w.heap[t]? = some (.cells c T (0, 0))) (ht : t < w.heap.size) (hb : Below w.heap.size w w4) (hg : (w4.alloc o).grownBy w5 row) (hr : row ≠ some t) :
    w5.heap[t]? = some (.cells c T (0, 0)) ∧ (w5.setCell ⟨t, off, none⟩ u).heap[t]? = some (.cells (c.setIfInBounds off u) T (0, 0)) := by
  have h1 := hb.size
  have e2 := hg.block t (by rw [World.size_alloc]; omega) (fun e => hr e.symm)
  have e := e2.trans ((Below.heap_alloc w4 o t (by omega)).trans ((hb.block t ht).trans hc))
  exact ⟨e, by simp [World.setCell, Array.getElem?_modify, e]⟩
def PlainPost (n : Nat) (x : Ex n) (w : World) (e : Ending) (w' : World) : Prop := ∃ v : V7, e = .returned (.agg #[.int .i64 v.op, .int .i64 v.num, .string v.tx, .slice v.pa v.pl v.pc, .slice v.qa v.ql v.qc, .bool v.opn, .slice v.ka v.kl v.kc]) ∧ Below w.heap.size w w' ∧ ExQ w' (rng w.heap.size w') n v x
def PlainOk (n : Nat) : Prop := ∀ (w : World) (B : Nat) (v : V7) (x : Ex n) (d : Nat), B ≤ w.heap.size → SmallE n d x → ExIn w B n v x → Calls Tryd.prog 14 #[.agg #[.int .i64 v.op, .int .i64 v.num, .string v.tx, .slice v.pa v.pl v.pc, .slice v.qa v.ql v.qc, .bool v.opn, .slice v.ka v.kl v.kc]] w (PlainPost n x w)
/-- A block, as it lay. -/
abbrev SW (g : Nat) (w0 W : World) : Prop := (∀ o, W.cell? ⟨g, o, none⟩ = w0.cell? ⟨g, o, none⟩) ∧ g < W.heap.size
theorem SW.drew {g : Nat} {w0 W : World} (h : SW g w0 W) : SW g w0 W.drew := h
theorem SW.below {g : Nat} {w0 W W' : World} (h : SW g w0 W) (hb : Below W.heap.size W W') : SW g w0 W' := ⟨fun o => (hb.cell (p := ⟨g, o, none⟩) h.2).trans (h.1 o), Nat.lt_of_lt_of_le h.2 hb.size⟩
theorem SW.set {g b o : Nat} {w0 W : World} {u : Value} (h : SW g w0 W) (hne : b ≠ g) : SW g w0 (W.setCell ⟨b, o, none⟩ u) := ⟨fun o' => (cell_set_ne _ _ _ _ _ _ (Or.inl hne)).trans (h.1 o'), by rw [World.size_setCell]; exact h.2⟩
theorem SW.grown {g : Nat} {w0 W W' : World} {row : Option Nat} (h : SW g w0 W) (hg : W.grownBy W' row) (hr : row ≠ some g) : SW g w0 W' := ⟨fun o => (hg.cell_far ⟨g, o, none⟩ h.2 (Ne.symm hr)).trans (h.1 o), Nat.lt_of_lt_of_le h.2 hg.size⟩
end Go.Proofs.YtigdibglkejciaaDoor.Ex
