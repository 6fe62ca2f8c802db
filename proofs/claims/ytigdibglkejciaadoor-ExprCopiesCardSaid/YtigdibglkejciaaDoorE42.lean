/-
  Expressions told over a predicate of blocks; blocks of a type; stores that leave them.
-/
import Derived.Test.YtigdibglkejciaaDoorE38
import Derived.OneCell
namespace Go.Proofs.YtigdibglkejciaaDoor.Ex
open Go.RowKit Go
set_option linter.unusedSimpArgs false

def StrsQ (W : World) (Q : TypeId → Nat → Nat → Prop) (a : Option Addr) (len : Nat) (l : List ByteArray) : Prop := len = l.length ∧ l.length ≤ maxLen ∧ (0 < l.length → ∃ g off, a = some ⟨g, off, none⟩ ∧ Q 9 g off ∧ ∀ i (h : i < l.length), W.cell? ⟨g, off + i, none⟩ = some (.string l[i]))
def KidsQ {α : Type} (I : V7 → α → Prop) (W : World) (Q : TypeId → Nat → Nat → Prop) (a : Option Addr) (len : Nat) (l : List α) : Prop :=
  len = l.length ∧ l.length ≤ maxLen ∧ (0 < l.length → ∃ g off, a = some ⟨g, off, none⟩ ∧ Q 26 g off ∧ ∀ i (h : i < l.length), ∃ v, EAt W g (off + i * 7) v ∧ I v l[i])
def PairsQ {α : Type} (I : V7 → α → Prop) (W : World) (Q : TypeId → Nat → Nat → Prop) (a : Option Addr) (len : Nat) (l : List (ByteArray × α)) : Prop :=
  len = l.length ∧ l.length ≤ maxLen ∧ (0 < l.length → ∃ g off, a = some ⟨g, off, none⟩ ∧ Q 46 g off ∧ ∀ i (h : i < l.length), ∃ v, W.cell? ⟨g, off + i * 8, none⟩ = some (.string l[i].1) ∧ EAt W g (off + i * 8 + 1) v ∧ I v l[i].2)
/-- An expression whose slices lie where Q says. -/
def ExQ (W : World) (Q : TypeId → Nat → Nat → Prop) : (n : Nat) → V7 → Ex n → Prop
  | 0, _, x => x.elim
  | n + 1, v, x => v.op = x.1.op ∧ v.num = x.1.num ∧ v.tx = x.1.text ∧ v.opn = x.1.opn ∧ StrsQ W Q v.pa v.pl x.2.1 ∧ PairsQ (ExQ W Q n) W Q v.qa v.ql x.2.2.1 ∧ KidsQ (ExQ W Q n) W Q v.ka v.kl x.2.2.2
theorem exq_in (W : World) (B : Nat) : ∀ n, ExQ W (fun _ g _ => g < B) n = ExIn W B n
  | 0 => by funext _ x; exact x.elim
  | n + 1 => by
    have ih := exq_in W B n
    funext v x
    simp only [ExQ, ExIn, ih]
    rfl
theorem ExQ.map {W W' : World} {Q Q' : TypeId → Nat → Nat → Prop} (h : ∀ T g off, Q T g off → (∀ o, W'.cell? ⟨g, o, none⟩ = W.cell? ⟨g, o, none⟩) ∧ Q' T g off) : ∀ (n : Nat) (v : V7) (x : Ex n), ExQ W Q n v x → ExQ W' Q' n v x
  | 0, _, x, _ => x.elim
  | n + 1, v, x, hx => by
    obtain ⟨h1, h2, h3, h4, h5, h6, h7⟩ := hx
    refine ⟨h1, h2, h3, h4, ⟨h5.1, h5.2.1, fun hp => ?_⟩, ⟨h6.1, h6.2.1, fun hp => ?_⟩, ⟨h7.1, h7.2.1, fun hp => ?_⟩⟩
    · obtain ⟨g, off, e, hg, hi⟩ := h5.2.2 hp
      exact ⟨g, off, e, (h _ _ _ hg).2, fun i hlt => ((h _ _ _ hg).1 _).trans (hi i hlt)⟩
    · obtain ⟨g, off, e, hg, hi⟩ := h6.2.2 hp
      refine ⟨g, off, e, (h _ _ _ hg).2, fun i hlt => ?_⟩
      obtain ⟨v', a, b, c⟩ := hi i hlt
      exact ⟨v', ((h _ _ _ hg).1 _).trans a, b.kept (fun o => (h _ _ _ hg).1 o), ExQ.map h n _ _ c⟩
    · obtain ⟨g, off, e, hg, hi⟩ := h7.2.2 hp
      refine ⟨g, off, e, (h _ _ _ hg).2, fun i hlt => ?_⟩
      obtain ⟨v', b, c⟩ := hi i hlt
      exact ⟨v', b.kept (fun o => (h _ _ _ hg).1 o), ExQ.map h n _ _ c⟩
/-- Block b holds cells of elements of type T, none of them frozen. -/
def blk (w : World) (T : TypeId) (b : Nat) : Prop := ∃ cur, w.heap[b]? = some (.cells cur T (0, 0))
theorem blk.lt {w : World} {T : TypeId} {b : Nat} (h : blk w T b) : b < w.heap.size := by
  obtain ⟨cur, h⟩ := h
  exact lt_of_block h
theorem blk.free {w : World} {T : TypeId} {b : Nat} (h : blk w T b) (o : Nat) : w.frozen? ⟨b, o, none⟩ = false := by
  obtain ⟨cur, h⟩ := h
  simp [World.frozen?, h]
theorem blk.below {w w' : World} {T : TypeId} {b : Nat} (h : blk w T b) {B : Nat} (hB : Below B w w') (hb : b < B) : blk w' T b := by
  obtain ⟨cur, h⟩ := h
  exact ⟨cur, (hB.block b hb).trans h⟩
theorem blk.setCell {w : World} {T : TypeId} {b : Nat} (h : blk w T b) (a : Addr) (v : Value) : blk (w.setCell a v) T b := by
  obtain ⟨cur, h⟩ := h
  unfold blk World.setCell
  by_cases e : a.block = b
  · subst e
    refine ⟨if a.spot.isSome then cur else cur.setIfInBounds a.off v, ?_⟩
    simp only [Array.getElem?_modify, if_pos]
    rw [h]; rfl
  · refine ⟨cur, ?_⟩
    simp only [Array.getElem?_modify]
    rw [if_neg e, h]
theorem blk.uniq {w : World} {T T' : TypeId} {b : Nat} (h : blk w T b) (h' : blk w T' b) : T = T' := by
  obtain ⟨c, h⟩ := h
  obtain ⟨c', h'⟩ := h'
  rw [h] at h'; cases h'; rfl
theorem cell_set_ne (w : World) (b o b' o' : Nat) (v : Value) (h : b ≠ b' ∨ o ≠ o') : (w.setCell ⟨b, o, none⟩ v).cell? ⟨b', o', none⟩ = w.cell? ⟨b', o', none⟩ :=
  World.cell?_setCell_other _ _ _ _ (fun e => by injection e with e1 e2; exact h.elim (fun k => k e1) (fun k => k e2))
/-- What the call owns: from block lo on, from the block's first cell. -/
def Own (lo : Nat) (W : World) (T : TypeId) (g off : Nat) : Prop := off = 0 ∧ lo ≤ g ∧ blk W T g
def ExOwn (W : World) (lo n : Nat) (v : V7) (x : Ex n) : Prop := ExQ W (Own lo W) n v x
theorem ExOwn.toIn {W : World} {lo n : Nat} {v : V7} {x : Ex n} (h : ExOwn W lo n v x) : ExIn W W.heap.size n v x := by
  rw [← exq_in]
  exact ExQ.map (fun T g off hq => ⟨fun _ => rfl, hq.2.2.lt⟩) n v x h
/-- All blocks from lo on lie as they lay. -/
def Stays (lo : Nat) (w w' : World) : Prop := ∀ T b, lo ≤ b → blk w T b → (∀ o, w'.cell? ⟨b, o, none⟩ = w.cell? ⟨b, o, none⟩) ∧ blk w' T b
theorem Stays.below {lo : Nat} {w w' : World} (h : Below w.heap.size w w') : Stays lo w w' := fun _ b _ hk => ⟨fun o => h.cell (p := ⟨b, o, none⟩) hk.lt, hk.below h hk.lt⟩
theorem Stays.set {lo g o : Nat} {w : World} {u : Value} (h : g < lo) : Stays lo w (w.setCell ⟨g, o, none⟩ u) := fun _ b hb hk => ⟨fun o' => cell_set_ne _ _ _ _ _ _ (Or.inl (by omega)), hk.setCell _ _⟩
theorem Stays.trans {lo : Nat} {a b c : World} (h : Stays lo a b) (k : Stays lo b c) : Stays lo a c := fun T g hg hk => by
  obtain ⟨h1, h2⟩ := h T g hg hk
  obtain ⟨k1, k2⟩ := k T g hg h2
  exact ⟨fun o => (k1 o).trans (h1 o), k2⟩
theorem ExOwn.stays {lo lo' : Nat} {w w' : World} {n : Nat} {v : V7} {x : Ex n} (h : ExOwn w lo n v x) (hs : Stays lo w w') (hl : lo' ≤ lo) : ExOwn w' lo' n v x :=
  ExQ.map (fun T g _ hq => ⟨(hs T g hq.2.1 hq.2.2).1, hq.1, Nat.le_trans hl hq.2.1, (hs T g hq.2.1 hq.2.2).2⟩) n v x h
/-- A box, and that it is there. -/
abbrev SX (b : Nat) (c : Array Value) (W : World) : Prop := (∀ o, W.cell? ⟨b, o, none⟩ = c[o]?) ∧ b < W.heap.size
theorem SX.of {b : Nat} {c : Array Value} {T : TypeId} {f : Nat × Nat} {W : World} (h : W.heap[b]? = some (.cells c T f)) : SX b c W := ⟨cells_of h, lt_of_block h⟩
theorem SX.below {b : Nat} {c : Array Value} {W W' : World} (h : SX b c W) (hb : Below W.heap.size W W') : SX b c W' := ⟨fun o => (hb.cell (p := ⟨b, o, none⟩) h.2).trans (h.1 o), Nat.lt_of_lt_of_le h.2 hb.size⟩
theorem SX.drew {b : Nat} {c : Array Value} {W : World} (h : SX b c W) : SX b c W.drew := h
theorem SX.set {b g o : Nat} {c : Array Value} {W : World} {u : Value} (h : SX b c W) (hne : g ≠ b) : SX b c (W.setCell ⟨g, o, none⟩ u) := ⟨fun o' => (cell_set_ne _ _ _ _ _ _ (Or.inl hne)).trans (h.1 o'), by rw [World.size_setCell]; exact h.2⟩
theorem SX.grown {b : Nat} {c : Array Value} {W W' : World} {row : Option Nat} (h : SX b c W) (hg : W.grownBy W' row) (hr : row ≠ some b) : SX b c W' := ⟨fun o => (hg.cell_far ⟨b, o, none⟩ h.2 (Ne.symm hr)).trans (h.1 o), Nat.lt_of_lt_of_le h.2 hg.size⟩
end Go.Proofs.YtigdibglkejciaaDoor.Ex
