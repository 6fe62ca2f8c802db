/-
  A map from numbers to values, read by a function; buckets as plain data.
-/
import Derived.Test.YtigdibglkejciaaB2
import Derived.Maps.OwnSet
import Derived.Maps.Views
import Derived.Maps.AppendAt
import Derived.Deep.AppendLies
import Derived.OneCell
namespace Go.Proofs.Ytigdibglkejciaa.Buck
open Go.RowKit Go

/-- A value as itself. -/
def rv (v : Value) : Option (DataW Value × List MemPlace) := some (.held v, [])
def nilS : Value := .slice none 0 0
/-- Block mb is a map of at most N entries that reads as f. -/
def MapAt (w : World) (mb N : Nat) (f : Int → Option Value) : Prop :=
  ∃ D, w.ownsMap Try.prog 3 rv mb N D ∧ ∀ k, (Lit.int .i64 k).wf = true → Maps.has D (.int .i64 k) = (f k).isSome ∧ D.atKey (.int .i64 k) (.held nilS) = .held ((f k).getD nilS)
def upd (f : Int → Option Value) (k : Int) (v : Option Value) : Int → Option Value := fun j => if j = k then v else f j
theorem keyed : Maps.Keyed Try.prog 3 := Maps.int_keyed Try.underlying3
theorem zero68 (w : World) : (zeroValue 68).run Try.prog w = .ok nilS w := Try.zeroValue68 w
theorem MapAt.look {w : World} {mb N : Nat} {f : Int → Option Value} (h : MapAt w mb N f) {k : Int} (hk : (Lit.int .i64 k).wf = true) : (Instr.lookup 75 (.map (some mb)) (.int .i64 k) false).run Try.prog w = .ok ((f k).getD nilS) w := by
  obtain ⟨D, ho, hD⟩ := h
  obtain ⟨v, ps, hr, hv⟩ := ho.lookup (t := 75) (e := 68) keyed Try.underlying75 (zero68 w) (zd := .held nilS) (zp := []) rfl (Maps.keyOf_int_mk Try.underlying3 hk)
  have e := (hD k hk).2
  simp only [rv, Option.some.injEq, Prod.mk.injEq] at hv
  rw [e] at hv
  injection hv.1 with hv'
  rw [hr, hv']
theorem MapAt.look_ok {w : World} {mb N : Nat} {f : Int → Option Value} (h : MapAt w mb N f) {k : Int} (hk : (Lit.int .i64 k).wf = true) : (Instr.lookup 75 (.map (some mb)) (.int .i64 k) true).run Try.prog w = .ok (.tuple #[(f k).getD nilS, .bool (f k).isSome]) w := by
  obtain ⟨D, ho, hD⟩ := h
  obtain ⟨v, ps, hr, hv⟩ := ho.look_ok (t := 75) (e := 68) keyed Try.underlying75 (zero68 w) (zd := .held nilS) (zp := []) rfl (Maps.keyOf_int_mk Try.underlying3 hk)
  have e := (hD k hk).2
  simp only [rv, Option.some.injEq, Prod.mk.injEq] at hv
  rw [e] at hv
  injection hv.1 with hv'
  rw [hr, hv', (hD k hk).1]
theorem MapAt.store {w : World} {mb N : Nat} {f : Int → Option Value} (h : MapAt w mb N f) {k : Int} (hk : (Lit.int .i64 k).wf = true) (hN : N < maxLen) (v : Value) :
    ∃ w', (Instr.mapUpdate 75 (.map (some mb)) (.int .i64 k) v).run Try.prog w = .ok () w' ∧ MapAt w' mb (N + 1) (upd f k (some v)) ∧ w.grownBy w' (some mb) := by
  obtain ⟨D, ho, hD⟩ := h
  obtain ⟨w', hr, ho', hg⟩ := ho.update (t := 75) (e := 68) keyed Try.underlying75 hN (Maps.keyOf_int_mk Try.underlying3 hk) (show rv v = some (.held v, []) from rfl)
  refine ⟨w', hr, ⟨_, ho', fun j hj => ?_⟩, hg⟩
  unfold upd
  by_cases e : j = k
  · subst e
    rw [if_pos rfl]
    exact ⟨Maps.has_put_same ho.isMap (show WideAt.IsKeyLit (Lit.int .i64 j) from trivial) _, Maps.atKey_put_same ho.isMap (show WideAt.IsKeyLit (Lit.int .i64 j) from trivial) _ _⟩
  · have hne : (Lit.int .i64 j) ≠ Lit.int .i64 k := fun h => e (by injection h)
    rw [if_neg e, Maps.has_put_other hne, Maps.atKey_put_other hne]
    exact hD j hj
theorem MapAt.drop {w : World} {mb N : Nat} {f : Int → Option Value} (h : MapAt w mb N f) {k : Int} (hk : (Lit.int .i64 k).wf = true) (ty : TypeId) :
    ∃ w', (Builtin.delete_ #[75, 3] ty #[.map (some mb), .int .i64 k]).run Try.prog w = .ok (.tuple #[]) w' ∧ MapAt w' mb N (upd f k none) ∧ w.grownBy w' (some mb) := by
  obtain ⟨D, ho, hD⟩ := h
  obtain ⟨w', hr, ho', hg⟩ := ho.drop (t := 75) (e := 68) keyed Try.underlying75 (Maps.keyOf_int_mk Try.underlying3 hk) ty
  refine ⟨w', hr, ⟨_, ho', fun j hj => ?_⟩, hg.grown⟩
  unfold upd
  by_cases e : j = k
  · subst e
    rw [if_pos rfl]
    exact ⟨Maps.has_del_same, Maps.atKey_del_same _⟩
  · have hne : (Lit.int .i64 j) ≠ Lit.int .i64 k := fun h => e (by injection h)
    rw [if_neg e, Maps.has_del_other hne, Maps.atKey_del_other hne]
    exact hD j hj
theorem MapAt.kept {w w' : World} {mb N : Nat} {f : Int → Option Value} {row : Option Nat} (h : MapAt w mb N f) (hg : w.grownBy w' row) (hne : row ≠ some mb) : MapAt w' mb N f := by
  obtain ⟨D, ho, hD⟩ := h
  exact ⟨D, ho.kept hg (Ne.symm hne), hD⟩
theorem MapAt.lt {w : World} {mb N : Nat} {f : Int → Option Value} (h : MapAt w mb N f) : mb < w.heap.size := by
  obtain ⟨D, ho, _⟩ := h
  exact ho.lt
theorem MapAt.congr {w : World} {mb N : Nat} {f f' : Int → Option Value} (h : MapAt w mb N f) (e : ∀ k, (Lit.int .i64 k).wf = true → f' k = f k) : MapAt w mb N f' := by
  obtain ⟨D, ho, hD⟩ := h
  exact ⟨D, ho, fun k hk => by rw [e k hk]; exact hD k hk⟩
theorem MapAt.made (w : World) : MapAt (w.alloc (.map #[] 0)) w.heap.size 0 (fun _ => none) :=
  ⟨_, World.ownsMap_made w Try.prog 3 rv, fun _ _ => ⟨rfl, rfl⟩⟩
theorem MapAt.grow {w : World} {mb N N' : Nat} {f : Int → Option Value} (h : MapAt w mb N f) (hN : N ≤ N') : MapAt w mb N' f := by
  obtain ⟨D, ho, hD⟩ := h
  exact ⟨D, ho.mono hN, hD⟩

/-- The ids of a bucket, in order. -/
def bucket (l : List (Int × Int)) (k : Int) : List Int := (l.filter (fun x => x.1 == k)).map (·.2)
def ints (l : List Int) : List Value := l.map (Value.int .i64)
/-- An index in memory: bx its block, mb its map's; V: the slices of its buckets, from block base on. -/
structure Idx (w : World) (base bx mb : Nat) (slots many : Int) (N : Nat) (bk : Int → List Int) (V : Int → Value) : Prop where
  box : w.heap[bx]? = some (.cells #[.int .i64 slots, .map (some mb), .int .i64 many] 77 (0, 0))
  map : MapAt w mb N (fun k => if bk k = [] then none else some (V k))
  rows : ∀ k, bk k ≠ [] → w.ownsRow base 3 1 (V k) (bk k).length (ints (bk k))
  apart : ∀ k k', k ≠ k' → bk k ≠ [] → bk k' ≠ [] → (V k).ownBlock ≠ (V k').ownBlock
  order : bx < base ∧ mb < base ∧ bx ≠ mb
/-- The blocks of an index. -/
def foot (bx mb : Nat) (bk : Int → List Int) (V : Int → Value) (b : Nat) : Prop := b = bx ∨ b = mb ∨ ∃ k, bk k ≠ [] ∧ (V k).ownBlock = some b
theorem Idx.kept {w w' : World} {base bx mb : Nat} {slots many : Int} {N : Nat} {bk : Int → List Int} {V : Int → Value} {row : Option Nat} (h : Idx w base bx mb slots many N bk V) (hg : w.grownBy w' row) (hr : ∀ b, row = some b → ¬ foot bx mb bk V b) : Idx w' base bx mb slots many N bk V where
  box := (hg.block bx (lt_of_block h.box) (fun e => hr _ e.symm (Or.inl rfl))).trans h.box
  map := h.map.kept hg (fun e => hr _ e (Or.inr (Or.inl rfl)))
  rows k hk := (h.rows k hk).kept hg (by
    cases hv : (V k).ownBlock with
    | none => exact Or.inl rfl
    | some b => exact Or.inr (fun e => hr b e.symm (Or.inr (Or.inr ⟨k, hk, hv⟩))))
  apart := h.apart
  order := h.order
/-- Only the blocks of S have changed, of the old ones. -/
structure Turn (S : Nat → Prop) (w w' : World) : Prop where
  os : w'.os = w.os
  tape : w'.tape = w.tape
  output : w'.output = w.output
  size : w.heap.size ≤ w'.heap.size
  block : ∀ b, b < w.heap.size → ¬ S b → w'.heap[b]? = w.heap[b]?
theorem Turn.refl (S : Nat → Prop) (w : World) : Turn S w w := ⟨rfl, rfl, rfl, Nat.le_refl _, fun _ _ _ => rfl⟩
theorem Turn.trans {S : Nat → Prop} {a b c : World} (h : Turn S a b) (k : Turn S b c) : Turn S a c :=
  ⟨k.os.trans h.os, k.tape.trans h.tape, k.output.trans h.output, Nat.le_trans h.size k.size, fun i hi hs => (k.block i (Nat.lt_of_lt_of_le hi h.size) hs).trans (h.block i hi hs)⟩
theorem Turn.of_grown {S : Nat → Prop} {a b : World} {row : Option Nat} (h : a.grownBy b row) (hr : ∀ x, row = some x → S x) : Turn S a b :=
  ⟨h.os, h.tape, h.output, h.size, fun i hi hs => h.block i hi (fun e => hs (hr i e.symm))⟩
theorem Turn.of_below {S : Nat → Prop} {a b : World} (h : Below a.heap.size a b) : Turn S a b := ⟨h.os, h.tape, h.output, h.size, fun i hi _ => h.block i hi⟩
theorem Turn.mono {S S' : Nat → Prop} {a b : World} (h : Turn S a b) (hs : ∀ x, x < a.heap.size → S x → S' x) : Turn S' a b := ⟨h.os, h.tape, h.output, h.size, fun i hi hn => h.block i hi (fun e => hn (hs i hi e))⟩
theorem Turn.below {S : Nat → Prop} {a b : World} (h : Turn S a b) {B : Nat} (hB : B ≤ a.heap.size) (hs : ∀ x, S x → B ≤ x) : Below B a b := ⟨h.os, h.tape, h.output, h.size, fun i hi => h.block i (by omega) (fun e => by have := hs i e; omega)⟩
theorem grown_below {w w' : World} (h : Below w.heap.size w w') : w.grownBy w' none := ⟨h.os, h.tape, h.output, h.size, fun i hi _ => h.block i hi⟩
theorem Idx.below {w w' : World} {base bx mb : Nat} {slots many : Int} {N : Nat} {bk : Int → List Int} {V : Int → Value} (h : Idx w base bx mb slots many N bk V) (hb : Below w.heap.size w w') : Idx w' base bx mb slots many N bk V :=
  h.kept (grown_below hb) (fun b e => by cases e)
end Go.Proofs.Ytigdibglkejciaa.Buck
