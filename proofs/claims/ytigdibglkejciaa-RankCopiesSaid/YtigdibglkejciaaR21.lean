/-
  Values that are made by appending: the plain facts.
-/
import Derived.Test.YtigdibglkejciaaR18
import Derived.Deep.AppendLies
namespace Go.Proofs.Ytigdibglkejciaa.Rank
open Go.RowKit

/-- From block lo on, and not the row of V. -/
def nq (lo : Nat) (w : World) (V : Value) (b _ : Nat) : Prop := lo ≤ b ∧ b < w.heap.size ∧ V.ownBlock ≠ some b
/-- From block lo on. -/
def rng (lo : Nat) (w : World) (b _ : Nat) : Prop := lo ≤ b ∧ b < w.heap.size
theorem ValAt.nq {lo lo' : Nat} {w w' : World} {V V' : Value} {n : Nat} {a : Option Addr} {len cap : Nat} {v : List (Trm n)} (h : ValAt w (Rank.nq lo w V) (Rank.nq lo w V) n a len cap v)
    (hk : ∀ b, lo ≤ b → b < w.heap.size → V.ownBlock ≠ some b → (∀ o, w'.cell? ⟨b, o, none⟩ = w.cell? ⟨b, o, none⟩) ∧ V'.ownBlock ≠ some b) (hs : w.heap.size ≤ w'.heap.size) (hl : lo' ≤ lo) : ValAt w' (Rank.nq lo' w' V') (Rank.nq lo' w' V') n a len cap v := by
  have h1 := ValAt.kept (W' := w') ⟨fun b _ hb o => (hk b hb.1 hb.2.1 hb.2.2).1 o, fun b _ hb o => (hk b hb.1 hb.2.1 hb.2.2).1 o⟩ h
  have m : ∀ b o, Rank.nq lo w V b o → Rank.nq lo' w' V' b o := fun b _ hb => ⟨Nat.le_trans hl hb.1, Nat.lt_of_lt_of_le hb.2.1 hs, (hk b hb.1 hb.2.1 hb.2.2).2⟩
  exact ValAt.mono m m h1
theorem FsAt.nq {lo lo' : Nat} {w w' : World} {V V' : Value} {n : Nat} {a : Option Addr} {len cap : Nat} {v : List (ByteArray × List (Trm n))} (h : FsAt (ValAt w (Rank.nq lo w V) (Rank.nq lo w V) n) w (Rank.nq lo w V) a len cap v)
    (hk : ∀ b, lo ≤ b → b < w.heap.size → V.ownBlock ≠ some b → (∀ o, w'.cell? ⟨b, o, none⟩ = w.cell? ⟨b, o, none⟩) ∧ V'.ownBlock ≠ some b) (hs : w.heap.size ≤ w'.heap.size) (hl : lo' ≤ lo) :
    FsAt (ValAt w' (Rank.nq lo' w' V') (Rank.nq lo' w' V') n) w' (Rank.nq lo' w' V') a len cap v := by
  have m : ∀ b o, Rank.nq lo w V b o → Rank.nq lo' w' V' b o := fun b _ hb => ⟨Nat.le_trans hl hb.1, Nat.lt_of_lt_of_le hb.2.1 hs, (hk b hb.1 hb.2.1 hb.2.2).2⟩
  have h1 : FsAt (ValAt w' (Rank.nq lo' w' V') (Rank.nq lo' w' V') n) w' (Rank.nq lo w V) a len cap v :=
    FsAt.kept (QT := Rank.nq lo w V) ⟨fun b _ hb o => (hk b hb.1 hb.2.1 hb.2.2).1 o, fun b _ hb o => (hk b hb.1 hb.2.1 hb.2.2).1 o⟩ (fun _ _ _ _ hv => ValAt.nq hv hk hs hl) h
  exact FsAt.mono m (fun _ _ _ _ hv => hv) h1

/-- The eight cells of a term. -/
def tcells (p : Pl) (fa : Option Addr) (fl fc : Nat) : List Value := [.int .i64 p.k, .int .i64 p.l, .int .i64 p.h, .string p.s, .bool p.a, .bool p.m, .bool p.o, .slice fa fl fc]
/-- The first k fields have been appended to V. -/
def PF (w : World) (lo n k : Nat) (V : Value) (ys : List Value) (fs : List (ByteArray × List (Trm n))) : Prop := w.ownsRow lo 87 2 V k ys ∧
  ∀ l (hl : l < fs.length), l < k → ys[l * 2]? = some (.string fs[l].1) ∧ ∃ ta tl tc, ys[l * 2 + 1]? = some (.slice ta tl tc) ∧ ValAt w (nq lo w V) (nq lo w V) n ta tl tc fs[l].2
/-- The first i terms have been appended to V. -/
def PT (w : World) (lo n i : Nat) (V : Value) (xs : List Value) (v : List (Trm (n + 1))) : Prop := w.ownsRow lo 33 8 V i xs ∧
  ∀ j (hj : j < v.length), j < i → ∃ fa fl fc, (∀ r, r < 8 → xs[j * 8 + r]? = (tcells v[j].1 fa fl fc)[r]?) ∧ FsAt (ValAt w (nq lo w V) (nq lo w V) n) w (nq lo w V) fa fl fc v[j].2
theorem PF.zero (w : World) (lo n : Nat) (fs : List (ByteArray × List (Trm n))) : PF w lo n 0 (.slice none 0 0) [] fs := ⟨World.ownsRow_nil _ _ _ _, fun l _ h => absurd h (by omega)⟩
theorem PT.zero (w : World) (lo n : Nat) (v : List (Trm (n + 1))) : PT w lo n 0 (.slice none 0 0) [] v := ⟨World.ownsRow_nil _ _ _ _, fun l _ h => absurd h (by omega)⟩
theorem PF.step {w w' : World} {lo n k : Nat} {V V' : Value} {ys : List Value} {fs : List (ByteArray × List (Trm n))} (h : PF w lo n k V ys fs) (hk : k < fs.length) {ta : Option Addr} {tl tc : Nat}
    (ho : w'.ownsRow lo 87 2 V' (k + 1) (ys ++ [.string fs[k].1, .slice ta tl tc])) (hv : ValAt w' (nq lo w' V') (nq lo w' V') n ta tl tc fs[k].2)
    (hq : ∀ b, lo ≤ b → b < w.heap.size → V.ownBlock ≠ some b → (∀ o, w'.cell? ⟨b, o, none⟩ = w.cell? ⟨b, o, none⟩) ∧ V'.ownBlock ≠ some b) (hs : w.heap.size ≤ w'.heap.size) :
    PF w' lo n (k + 1) V' (ys ++ [.string fs[k].1, .slice ta tl tc]) fs := by
  have hlen : ys.length = k * 2 := h.1.1
  refine ⟨ho, fun l hl hlt => ?_⟩
  by_cases e : l = k
  · subst e
    refine ⟨?_, ta, tl, tc, ?_, hv⟩
    · rw [List.getElem?_append_right (by omega), show l * 2 - ys.length = 0 by omega]; rfl
    · rw [List.getElem?_append_right (by omega), show l * 2 + 1 - ys.length = 1 by omega]; rfl
  · obtain ⟨c0, xa, xl, xc, c1, hV⟩ := h.2 l hl (by omega)
    exact ⟨by rw [List.getElem?_append_left (by omega)]; exact c0, xa, xl, xc, by rw [List.getElem?_append_left (by omega)]; exact c1, hV.nq hq hs (Nat.le_refl _)⟩
theorem PT.step {w w' : World} {lo n i : Nat} {V V' : Value} {xs : List Value} {v : List (Trm (n + 1))} (h : PT w lo n i V xs v) (hi : i < v.length) {fa : Option Addr} {fl fc : Nat}
    (ho : w'.ownsRow lo 33 8 V' (i + 1) (xs ++ tcells v[i].1 fa fl fc)) (hf : FsAt (ValAt w' (nq lo w' V') (nq lo w' V') n) w' (nq lo w' V') fa fl fc v[i].2)
    (hq : ∀ b, lo ≤ b → b < w.heap.size → V.ownBlock ≠ some b → (∀ o, w'.cell? ⟨b, o, none⟩ = w.cell? ⟨b, o, none⟩) ∧ V'.ownBlock ≠ some b) (hs : w.heap.size ≤ w'.heap.size) :
    PT w' lo n (i + 1) V' (xs ++ tcells v[i].1 fa fl fc) v := by
  have hlen : xs.length = i * 8 := h.1.1
  refine ⟨ho, fun j hj hlt => ?_⟩
  by_cases e : j = i
  · subst e
    refine ⟨fa, fl, fc, fun r hr => ?_, hf⟩
    rw [List.getElem?_append_right (by omega), show j * 8 + r - xs.length = r by omega]
  · obtain ⟨xa, xl, xc, c, hF⟩ := h.2 j hj (by omega)
    exact ⟨xa, xl, xc, fun r hr => by rw [List.getElem?_append_left (by omega)]; exact c r hr, hF.nq hq hs (Nat.le_refl _)⟩
theorem PF.done {w : World} {lo n cap : Nat} {a : Option Addr} {ys : List Value} {fs : List (ByteArray × List (Trm n))} (h : PF w lo n fs.length (.slice a fs.length cap) ys fs) : FsAt (ValAt w (rng lo w) (rng lo w) n) w (rng lo w) a fs.length cap fs := by
  obtain ⟨ho, hl⟩ := h
  by_cases h0 : 0 < fs.length
  · obtain ⟨g, cap', e, hg, hb, hc, hm, hat⟩ := ownsRow_at ho h0
    injection e with e1 e2 e3
    subst e1 e3
    refine ⟨rfl, hc, hm, (fun h => by cases h), fun _ => ⟨g, 0, rfl, ⟨hg, hb.lt⟩, fun i hi => ?_⟩⟩
    obtain ⟨c0, ta, tl, tc, c1, hV⟩ := hl i hi hi
    refine ⟨?_, ta, tl, tc, ?_, ValAt.mono (fun b _ hb => ⟨hb.1, hb.2.1⟩) (fun b _ hb => ⟨hb.1, hb.2.1⟩) hV⟩
    · rw [Nat.zero_add]; exact hat _ _ c0
    · rw [Nat.zero_add]; exact hat _ _ c1
  · obtain rfl : fs = [] := List.length_eq_zero_iff.1 (by omega)
    obtain ⟨a', cap', e, hm, hn⟩ := ownsRow_zero (show w.ownsRow lo 87 2 (.slice a 0 cap) 0 ys from ho)
    injection e with e1 e2 e3
    subst e1 e3
    exact ⟨rfl, Nat.zero_le _, hm, hn, fun h => absurd rfl h⟩
theorem PT.done {w : World} {lo n cap : Nat} {a : Option Addr} {xs : List Value} {v : List (Trm (n + 1))} (h : PT w lo n v.length (.slice a v.length cap) xs v) : ValAt w (rng lo w) (rng lo w) (n + 1) a v.length cap v := by
  obtain ⟨ho, hl⟩ := h
  by_cases h0 : 0 < v.length
  · obtain ⟨g, cap', e, hg, hb, hc, hm, hat⟩ := ownsRow_at ho h0
    injection e with e1 e2 e3
    subst e1 e3
    refine ⟨rfl, hc, hm, (fun h => by cases h), fun _ => ⟨g, 0, rfl, ⟨hg, hb.lt⟩, fun i hi => ?_⟩⟩
    obtain ⟨fa, fl, fc, c, hF⟩ := hl i hi hi
    have m : ∀ b o, nq lo w (.slice (some ⟨g, 0, none⟩) v.length cap) b o → rng lo w b o := fun b _ hb => ⟨hb.1, hb.2.1⟩
    refine ⟨fa, fl, fc, ?_, FsAt.mono m (fun _ _ _ _ hv => ValAt.mono m m hv) hF⟩
    have G : ∀ r u, r < 8 → (tcells v[i].1 fa fl fc)[r]? = some u → w.cell? ⟨g, 0 + i * 8 + r, none⟩ = some u := fun r u hr hu => by
      rw [Nat.zero_add]; exact hat _ _ ((c r hr).trans hu)
    exact ⟨G 0 _ (by omega) rfl, G 1 _ (by omega) rfl, G 2 _ (by omega) rfl, G 3 _ (by omega) rfl, G 4 _ (by omega) rfl, G 5 _ (by omega) rfl, G 6 _ (by omega) rfl, G 7 _ (by omega) rfl⟩
  · obtain rfl : v = [] := List.length_eq_zero_iff.1 (by omega)
    obtain ⟨a', cap', e, hm, hn⟩ := ownsRow_zero (show w.ownsRow lo 33 8 (.slice a 0 cap) 0 xs from ho)
    injection e with e1 e2 e3
    subst e1 e3
    exact ⟨rfl, Nat.zero_le _, hm, hn, fun h => absurd rfl h⟩
theorem ValAt.rngIn {w : World} {lo n : Nat} {a : Option Addr} {len cap : Nat} {v : List (Trm n)} (h : ValAt w (rng lo w) (rng lo w) n a len cap v) : ValIn w w.heap.size n a len cap v :=
  ValAt.mono (fun _ _ hb => hb.2) (fun _ _ hb => hb.2) h

theorem grown_of_below {w w' : World} (h : Below w.heap.size w w') : w.grownBy w' none := ⟨h.os, h.tape, h.output, h.size, fun i hi _ => h.block i hi⟩
theorem own_below {w w' : World} {base : Nat} {T : TypeId} {size n : Nat} {V : Value} {xs : List Value} (h : w.ownsRow base T size V n xs) (hb : Below w.heap.size w w') : w'.ownsRow base T size V n xs := by
  refine h.kept (grown_of_below hb) ?_
  by_cases e : V.ownBlock = none
  · exact Or.inl e
  · exact Or.inr e
/-- Of the old blocks only t and the row have changed. -/
def OnlyBut (w w' : World) (t : Nat) (row : Option Nat) : Prop := w.heap.size ≤ w'.heap.size ∧ ∀ b, b < w.heap.size → b ≠ t → row ≠ some b → w'.heap[b]? = w.heap[b]?
theorem OnlyBut.cell {w w' : World} {t : Nat} {row : Option Nat} (h : OnlyBut w w' t row) {b : Nat} (hb : b < w.heap.size) (ht : b ≠ t) (hr : row ≠ some b) (o : Nat) : w'.cell? ⟨b, o, none⟩ = w.cell? ⟨b, o, none⟩ :=
  World.cell?_of_block (h.2 b hb ht hr)
theorem onlyBut_of {w w4 w5 : World} {o : Obj} {row : Option Nat} {t off : Nat} {u : Value} (hb : Below w.heap.size w w4) (hg : (w4.alloc o).grownBy w5 row) : OnlyBut w (w5.setCell ⟨t, off, none⟩ u) t row := by
  have h1 := hb.size
  have h2 := hg.size
  rw [World.size_alloc] at h2
  refine ⟨by rw [World.size_setCell]; omega, fun b hlt hne hr => ?_⟩
  have e1 := Below.heap_setCell w5 ⟨t, off, none⟩ u b hne
  have e2 := hg.block b (by rw [World.size_alloc]; omega) (fun e => hr e.symm)
  have e3 := Below.heap_alloc w4 o b (by omega)
  exact e1.trans (e2.trans (e3.trans (hb.block b hlt)))
/-- The block itself. -/
theorem block_set {w w4 w5 : World} {o : Obj} {row : Option Nat} {t off : Nat} {u : Value} {c : Array Value} {T : TypeId} (hc : w.heap[t]? = some (.cells c T (0, 0))) (ht : t < w.heap.size) (hb : Below w.heap.size w w4) (hg : (w4.alloc o).grownBy w5 row) (hr : row ≠ some t) :
    w5.heap[t]? = some (.cells c T (0, 0)) ∧ (w5.setCell ⟨t, off, none⟩ u).heap[t]? = some (.cells (c.setIfInBounds off u) T (0, 0)) := by
  have h1 := hb.size
  have h2 := hg.size
  have e2 := hg.block t (by rw [World.size_alloc]; omega) (fun e => hr e.symm)
  have e3 := Below.heap_alloc w4 o t (by omega)
  have e := e2.trans (e3.trans ((hb.block t ht).trans hc))
  exact ⟨e, heap_setCell_same w5 t off c T u e⟩
theorem below_next {B : Nat} {w w4 w5 : World} {o : Obj} {row : Option Nat} {t off : Nat} {u : Value} (hB : B ≤ w.heap.size) (hb : Below w.heap.size w w4) (hg : (w4.alloc o).grownBy w5 row) (hr : ∀ k, row = some k → B ≤ k) (ht : B ≤ t) : Below B w (w5.setCell ⟨t, off, none⟩ u) := by
  have h1 := hb.size
  have b1 : Below B w (w4.alloc o) := (hb.mono hB).alloc (by omega) o
  have b2 : Below B w w5 := b1.grown hg (by rw [World.size_alloc]; omega) hr
  exact b2.setCell ht _
theorem ValAt.rngNq {lo lo' : Nat} {w w' : World} {V' : Value} {n : Nat} {a : Option Addr} {len cap : Nat} {v : List (Trm n)} (h : ValAt w (rng lo w) (rng lo w) n a len cap v)
    (hk : ∀ b, lo ≤ b → b < w.heap.size → (∀ o, w'.cell? ⟨b, o, none⟩ = w.cell? ⟨b, o, none⟩) ∧ V'.ownBlock ≠ some b) (hs : w.heap.size ≤ w'.heap.size) (hl : lo' ≤ lo) : ValAt w' (Rank.nq lo' w' V') (Rank.nq lo' w' V') n a len cap v := by
  have h1 := ValAt.kept (W' := w') ⟨fun b _ hb o => (hk b hb.1 hb.2).1 o, fun b _ hb o => (hk b hb.1 hb.2).1 o⟩ h
  have m : ∀ b o, rng lo w b o → Rank.nq lo' w' V' b o := fun b _ hb => ⟨Nat.le_trans hl hb.1, Nat.lt_of_lt_of_le hb.2 hs, (hk b hb.1 hb.2).2⟩
  exact ValAt.mono m m h1
theorem FsAt.rngNq {lo lo' : Nat} {w w' : World} {V' : Value} {n : Nat} {a : Option Addr} {len cap : Nat} {v : List (ByteArray × List (Trm n))} (h : FsAt (ValAt w (rng lo w) (rng lo w) n) w (rng lo w) a len cap v)
    (hk : ∀ b, lo ≤ b → b < w.heap.size → (∀ o, w'.cell? ⟨b, o, none⟩ = w.cell? ⟨b, o, none⟩) ∧ V'.ownBlock ≠ some b) (hs : w.heap.size ≤ w'.heap.size) (hl : lo' ≤ lo) :
    FsAt (ValAt w' (Rank.nq lo' w' V') (Rank.nq lo' w' V') n) w' (Rank.nq lo' w' V') a len cap v := by
  have m : ∀ b o, rng lo w b o → Rank.nq lo' w' V' b o := fun b _ hb => ⟨Nat.le_trans hl hb.1, Nat.lt_of_lt_of_le hb.2 hs, (hk b hb.1 hb.2).2⟩
  have h1 : FsAt (ValAt w' (Rank.nq lo' w' V') (Rank.nq lo' w' V') n) w' (rng lo w) a len cap v :=
    FsAt.kept (QT := rng lo w) ⟨fun b _ hb o => (hk b hb.1 hb.2).1 o, fun b _ hb o => (hk b hb.1 hb.2).1 o⟩ (fun _ _ _ _ hv => ValAt.rngNq hv hk hs hl) h
  exact FsAt.mono m (fun _ _ _ _ hv => hv) h1

theorem PF.next {wr w3 w4 w5 : World} {o : Obj} {tB n j : Nat} {V u : Value} {qs : List Value} {fs : List (ByteArray × List (Trm n))} {ys : ByteArray} {gs : List (Trm n)} {ra : Option Addr} {rcap g cap : Nat}
    (hPF : PF wr (tB + 1) n j V qs fs) (hj : j < fs.length) (hy : fs[j] = (ys, gs)) (hlt : tB < wr.heap.size) (hb3 : Below wr.heap.size wr w3) (hb4 : Below w3.heap.size w3 w4)
    (hown : ValAt w4 (rng w3.heap.size w4) (rng w3.heap.size w4) n ra gs.length rcap gs)
    (ho5 : w5.ownsRow (tB + 1) 87 2 (.slice (some ⟨g, 0, none⟩) (j + 1) cap) (j + 1) (qs ++ [.string ys, .slice ra gs.length rcap])) (hg : (w4.alloc o).grownBy w5 V.ownBlock) (hat : V.ownBlock = some g ∨ g = w4.heap.size + 1) :
    PF (w5.setCell ⟨tB, 7, none⟩ u) (tB + 1) n (j + 1) (.slice (some ⟨g, 0, none⟩) (j + 1) cap) (qs ++ [.string ys, .slice ra gs.length rcap]) fs := by
  have s3 := hb3.size
  have s4 := hb4.size
  have s5 := hg.size
  rw [World.size_alloc] at s5
  have hbx : Below wr.heap.size wr w4 := hb3.trans (hb4.mono s3)
  have hgt : tB + 1 ≤ g := (ho5.lt g rfl).1
  have hVlt := hPF.1.lt
  have key := PF.step (w' := w5.setCell ⟨tB, 7, none⟩ u) hPF hj (V' := .slice (some ⟨g, 0, none⟩) (j + 1) cap) (ta := ra) (tl := gs.length) (tc := rcap) (by
      rw [hy]
      refine ownsRow_setCell_other ho5 ?_ u
      show some g ≠ some tB
      intro e; injection e with e; omega)
    (by
      rw [hy]
      refine hown.rngNq (fun b hb1 hb2 => ⟨fun o' => ?_, ?_⟩) (by rw [World.size_setCell]; omega) (by omega)
      · rw [cell_set_ne _ _ _ _ _ _ (Or.inl (by omega)), hg.cell_far ⟨b, o', none⟩ (by show b < (w4.alloc o).heap.size; rw [World.size_alloc]; omega) (by
          intro e
          have := (hVlt b e.symm).2
          omega)]
        exact World.cell?_of_block (Below.heap_alloc w4 o b (by omega))
      · show some g ≠ some b
        intro e; injection e with e
        rcases hat with hat | hat
        · have := (hVlt g hat).2; omega
        · omega)
    (fun b h1 h2 h3 => ⟨(onlyBut_of hbx hg).cell h2 (by omega) h3, by
      show some g ≠ some b
      intro e; injection e with e
      rcases hat with hat | hat
      · exact h3 (e ▸ hat)
      · omega⟩)
    (by rw [World.size_setCell]; omega)
  rw [hy] at key
  exact key
theorem PT.next {wo w4 w5 : World} {o : Obj} {oB n i : Nat} {V u : Value} {zs : List Value} {v : List (Trm (n + 1))} {p : Pl} {fs : List (ByteArray × List (Trm n))} {fa : Option Addr} {fc g cap : Nat}
    (hPT : PT wo (oB + 1) n i V zs v) (hi : i < v.length) (hx : v[i] = (p, fs)) (hlt : oB < wo.heap.size) (hb4 : Below wo.heap.size wo w4)
    (hF : FsAt (ValAt w4 (rng wo.heap.size w4) (rng wo.heap.size w4) n) w4 (rng wo.heap.size w4) fa fs.length fc fs)
    (ho5 : w5.ownsRow (oB + 1) 33 8 (.slice (some ⟨g, 0, none⟩) (i + 1) cap) (i + 1) (zs ++ tcells p fa fs.length fc)) (hg : (w4.alloc o).grownBy w5 V.ownBlock) (hat : V.ownBlock = some g ∨ g = w4.heap.size + 1) :
    PT (w5.setCell ⟨oB, 0, none⟩ u) (oB + 1) n (i + 1) (.slice (some ⟨g, 0, none⟩) (i + 1) cap) (zs ++ tcells p fa fs.length fc) v := by
  have s4 := hb4.size
  have s5 := hg.size
  rw [World.size_alloc] at s5
  have hgt : oB + 1 ≤ g := (ho5.lt g rfl).1
  have hVlt := hPT.1.lt
  have key := PT.step (w' := w5.setCell ⟨oB, 0, none⟩ u) hPT hi (V' := .slice (some ⟨g, 0, none⟩) (i + 1) cap) (fa := fa) (fl := fs.length) (fc := fc) (by
      rw [hx]
      refine ownsRow_setCell_other ho5 ?_ u
      show some g ≠ some oB
      intro e; injection e with e; omega)
    (by
      rw [hx]
      refine hF.rngNq (fun b hb1 hb2 => ⟨fun o' => ?_, ?_⟩) (by rw [World.size_setCell]; omega) (by omega)
      · rw [cell_set_ne _ _ _ _ _ _ (Or.inl (by omega)), hg.cell_far ⟨b, o', none⟩ (by show b < (w4.alloc o).heap.size; rw [World.size_alloc]; omega) (by
          intro e
          have := (hVlt b e.symm).2
          omega)]
        exact World.cell?_of_block (Below.heap_alloc w4 o b (by omega))
      · show some g ≠ some b
        intro e; injection e with e
        rcases hat with hat | hat
        · have := (hVlt g hat).2; omega
        · omega)
    (fun b h1 h2 h3 => ⟨(onlyBut_of hb4 hg).cell h2 (by omega) h3, by
      show some g ≠ some b
      intro e; injection e with e
      rcases hat with hat | hat
      · exact h3 (e ▸ hat)
      · omega⟩)
    (by rw [World.size_setCell]; omega)
  rw [hx] at key
  exact key
end Go.Proofs.Ytigdibglkejciaa.Rank
