/-
  Expressions as plain data, by depth; how they lie in memory.
-/
import Derived.Test.YtigdibglkejciaaDoorE4
import Derived.Deep.Slices
import Derived.Deep.Fields
import Derived.ChangeSame
import Derived.ProofKit
namespace Go.Proofs.YtigdibglkejciaaDoor.Ex
open Go.RowKit Go Go.ChangeShapes Go.WideShapes Go.Deep
set_option linter.unusedSimpArgs false

/-- What is plain in an expression. -/
structure EP where
  op : Int
  num : Int
  text : ByteArray
  opn : Bool
/-- Expressions of a depth below n: plain fields, path, pairs, kids. -/
def Ex : Nat → Type
  | 0 => Empty
  | n + 1 => EP × List ByteArray × List (ByteArray × Ex n) × List (Ex n)
/-- The seven cells. -/
structure V7 where
  op : Int
  num : Int
  tx : ByteArray
  pa : Option Addr
  pl : Nat
  pc : Nat
  qa : Option Addr
  ql : Nat
  qc : Nat
  opn : Bool
  ka : Option Addr
  kl : Nat
  kc : Nat
def V7.val (v : V7) : Value := .agg #[.int .i64 v.op, .int .i64 v.num, .string v.tx, .slice v.pa v.pl v.pc, .slice v.qa v.ql v.qc, .bool v.opn, .slice v.ka v.kl v.kc]
structure EAt (W : World) (g o : Nat) (v : V7) : Prop where
  c0 : W.cell? ⟨g, o, none⟩ = some (.int .i64 v.op)
  c1 : W.cell? ⟨g, o + 1, none⟩ = some (.int .i64 v.num)
  c2 : W.cell? ⟨g, o + 2, none⟩ = some (.string v.tx)
  c3 : W.cell? ⟨g, o + 3, none⟩ = some (.slice v.pa v.pl v.pc)
  c4 : W.cell? ⟨g, o + 4, none⟩ = some (.slice v.qa v.ql v.qc)
  c5 : W.cell? ⟨g, o + 5, none⟩ = some (.bool v.opn)
  c6 : W.cell? ⟨g, o + 6, none⟩ = some (.slice v.ka v.kl v.kc)
theorem EAt.kept {W W' : World} {g o : Nat} {v : V7} (h : EAt W g o v) (hk : ∀ x, W'.cell? ⟨g, x, none⟩ = W.cell? ⟨g, x, none⟩) : EAt W' g o v :=
  ⟨(hk _).trans h.c0, (hk _).trans h.c1, (hk _).trans h.c2, (hk _).trans h.c3, (hk _).trans h.c4, (hk _).trans h.c5, (hk _).trans h.c6⟩
def KidsIn {α : Type} (I : V7 → α → Prop) (W : World) (B : Nat) (a : Option Addr) (len : Nat) (l : List α) : Prop :=
  len = l.length ∧ l.length ≤ maxLen ∧ (0 < l.length → ∃ g off, a = some ⟨g, off, none⟩ ∧ g < B ∧ ∀ i (h : i < l.length), ∃ v, EAt W g (off + i * 7) v ∧ I v l[i])
def PairsIn {α : Type} (I : V7 → α → Prop) (W : World) (B : Nat) (a : Option Addr) (len : Nat) (l : List (ByteArray × α)) : Prop :=
  len = l.length ∧ l.length ≤ maxLen ∧ (0 < l.length → ∃ g off, a = some ⟨g, off, none⟩ ∧ g < B ∧ ∀ i (h : i < l.length), ∃ v, W.cell? ⟨g, off + i * 8, none⟩ = some (.string l[i].1) ∧ EAt W g (off + i * 8 + 1) v ∧ I v l[i].2)
/-- An expression, below block B, reads so. -/
def ExIn (W : World) (B : Nat) : (n : Nat) → V7 → Ex n → Prop
  | 0, _, x => x.elim
  | n + 1, v, x => v.op = x.1.op ∧ v.num = x.1.num ∧ v.tx = x.1.text ∧ v.opn = x.1.opn ∧ StrsIn W B v.pa v.pl x.2.1 ∧ PairsIn (ExIn W B n) W B v.qa v.ql x.2.2.1 ∧ KidsIn (ExIn W B n) W B v.ka v.kl x.2.2.2
theorem ExIn.kept {W W' : World} {B : Nat} (hb : Below B W W') : ∀ (n : Nat) (v : V7) (x : Ex n), ExIn W B n v x → ExIn W' B n v x
  | 0, _, x, _ => x.elim
  | n + 1, v, x, h => by
    obtain ⟨h1, h2, h3, h4, h5, h6, h7⟩ := h
    refine ⟨h1, h2, h3, h4, h5.kept hb, ⟨h6.1, h6.2.1, fun hp => ?_⟩, ⟨h7.1, h7.2.1, fun hp => ?_⟩⟩
    · obtain ⟨g, off, e, hg, hi⟩ := h6.2.2 hp
      refine ⟨g, off, e, hg, fun i hlt => ?_⟩
      obtain ⟨v', a, b, c⟩ := hi i hlt
      exact ⟨v', (hb.cell (p := ⟨g, _, none⟩) hg).trans a, b.kept (fun x => hb.cell (p := ⟨g, x, none⟩) hg), ExIn.kept hb n _ _ c⟩
    · obtain ⟨g, off, e, hg, hi⟩ := h7.2.2 hp
      refine ⟨g, off, e, hg, fun i hlt => ?_⟩
      obtain ⟨v', b, c⟩ := hi i hlt
      exact ⟨v', b.kept (fun x => hb.cell (p := ⟨g, x, none⟩) hg), ExIn.kept hb n _ _ c⟩
theorem ExIn.mono {W : World} {B B' : Nat} (hb : B ≤ B') : ∀ (n : Nat) (v : V7) (x : Ex n), ExIn W B n v x → ExIn W B' n v x
  | 0, _, x, _ => x.elim
  | n + 1, v, x, h => by
    obtain ⟨h1, h2, h3, h4, h5, h6, h7⟩ := h
    refine ⟨h1, h2, h3, h4, h5.mono hb, ⟨h6.1, h6.2.1, fun hp => ?_⟩, ⟨h7.1, h7.2.1, fun hp => ?_⟩⟩
    · obtain ⟨g, off, e, hg, hi⟩ := h6.2.2 hp
      exact ⟨g, off, e, by omega, fun i hlt => by obtain ⟨v', a, b, c⟩ := hi i hlt; exact ⟨v', a, b, ExIn.mono hb n _ _ c⟩⟩
    · obtain ⟨g, off, e, hg, hi⟩ := h7.2.2 hp
      exact ⟨g, off, e, by omega, fun i hlt => by obtain ⟨v', b, c⟩ := hi i hlt; exact ⟨v', b, ExIn.mono hb n _ _ c⟩⟩
/-- How many expressions. -/
def sumL {α : Type} (f : α → Nat) : List α → Nat
  | [] => 0
  | x :: l => f x + sumL f l
theorem sumL_snoc {α : Type} (f : α → Nat) (x : α) : ∀ l : List α, sumL f (l ++ [x]) = sumL f l + f x
  | [] => by simp [sumL]
  | y :: l => by simp [sumL, sumL_snoc f x l]; omega
theorem sumL_take {α : Type} (f : α → Nat) (l : List α) (k : Nat) (h : k < l.length) : sumL f (l.take (k + 1)) = sumL f (l.take k) + f l[k] := by
  rw [List.take_succ_eq_append_getElem h, sumL_snoc]
def cnt : (n : Nat) → Ex n → Nat
  | 0, x => x.elim
  | n + 1, x => 1 + sumL (fun p => cnt n p.2) x.2.2.1 + sumL (cnt n) x.2.2.2
/-- Small: no deeper than d, no text too long. -/
def SmallE : (n : Nat) → Nat → Ex n → Prop
  | 0, _, x => x.elim
  | n + 1, d, x => 1 ≤ d ∧ x.1.text.size ≤ 400 ∧ x.2.1.length ≤ 40 ∧ x.2.2.1.length ≤ 200 ∧ x.2.2.2.length ≤ 200 ∧ (∀ i (h : i < x.2.1.length), (x.2.1[i]).size ≤ 400) ∧
    (∀ i (h : i < x.2.2.1.length), (x.2.2.1[i]).1.size ≤ 400 ∧ SmallE n (d - 1) (x.2.2.1[i]).2) ∧ ∀ i (h : i < x.2.2.2.length), SmallE n (d - 1) x.2.2.2[i]
end Go.Proofs.YtigdibglkejciaaDoor.Ex
