/-
  Values as plain data, by depth; their order, and that it is total. No program here.
-/
import Derived.Test.YtigdibglkejciaaProg
import Derived.Lib.Hide
import Derived.Shelf.Small.Strs
namespace Go.Proofs.Ytigdibglkejciaa.Rank
open Go.RowKit

/-- A three-way comparison of a total order. -/
structure Tri {α : Type} (c : α → α → Int) : Prop where
  range : ∀ a b, c a b = -1 ∨ c a b = 0 ∨ c a b = 1
  turn : ∀ a b, c b a = - c a b
  on : ∀ a b d, c a b ≤ 0 → c b d ≤ 0 → c a d ≤ 0 ∧ (c a d = 0 → c a b = 0 ∧ c b d = 0)

theorem Tri.self {α : Type} {c : α → α → Int} (h : Tri c) (a : α) : c a a = 0 := by
  have := h.turn a a; omega

/-- The first that tells. -/
def thn (a b : Int) : Int := if a = 0 then b else a
theorem Tri.thn {α : Type} {c d : α → α → Int} (hc : Tri c) (hd : Tri d) : Tri (fun a b => thn (c a b) (d a b)) where
  range a b := by have := hc.range a b; have := hd.range a b; unfold Rank.thn; split <;> omega
  turn a b := by have := hc.turn a b; have := hd.turn a b; unfold Rank.thn; split <;> split <;> omega
  on a b e := by
    have c1 := hc.on a b e
    have d1 := hd.on a b e
    have c2 := hc.range a b
    have c3 := hc.range b e
    unfold Rank.thn
    intro h1 h2
    split at h1 <;> split at h2 <;> split <;> (try split) <;> (try split) <;> grind
theorem Tri.on' {α β : Type} {c : α → α → Int} (hc : Tri c) (f : β → α) : Tri (fun a b => c (f a) (f b)) where
  range _ _ := hc.range _ _
  turn _ _ := hc.turn _ _
  on _ _ _ := hc.on _ _ _

/-- Two lists, element by element; the shorter one first. -/
def lex {α : Type} (c : α → α → Int) : List α → List α → Int
  | [], [] => 0
  | [], _ :: _ => -1
  | _ :: _, [] => 1
  | a :: l, b :: m => thn (c a b) (lex c l m)
theorem lex_tri {α : Type} {c : α → α → Int} (hc : Tri c) : Tri (lex c) := by
  refine ⟨?_, ?_, ?_⟩
  · intro a
    induction a with
    | nil => intro b; cases b <;> simp [lex]
    | cons x l ih =>
      intro b
      cases b with
      | nil => simp [lex]
      | cons y m => have := ih m; have := hc.range x y; simp only [lex, thn]; split <;> omega
  · intro a
    induction a with
    | nil => intro b; cases b <;> simp [lex]
    | cons x l ih =>
      intro b
      cases b with
      | nil => simp [lex]
      | cons y m => have := ih m; have := hc.turn x y; simp only [lex, thn]; split <;> split <;> omega
  · intro a
    induction a with
    | nil => intro b d; cases b <;> cases d <;> simp [lex]
    | cons x l ih =>
      intro b d
      cases b with
      | nil => cases d <;> simp [lex]
      | cons y m =>
        cases d with
        | nil => simp [lex]
        | cons z r =>
          have h1 := ih m r
          have h2 := hc.on x y z
          have h3 := hc.range x y
          have h4 := hc.range y z
          simp only [lex, thn]
          intro g1 g2
          split at g1 <;> split at g2 <;> split <;> (try split) <;> (try split) <;> grind

/-- The plain fields of a term. -/
structure Pl where
  k : Int
  l : Int
  h : Int
  s : ByteArray
  a : Bool
  m : Bool
  o : Bool
/-- A term, by depth; a value is a list of terms; a field a name and a value. -/
def Trm : Nat → Type
  | 0 => Empty
  | n + 1 => Pl × List (ByteArray × List (Trm n))

def cmpI (a b : Int) : Int := if a < b then -1 else if b < a then 1 else 0
def cmpS (a b : ByteArray) : Int := Lib.compareBytes a.data.toList b.data.toList
def flag (b : Bool) : Int := if b then 1 else 0
def cmpB (a b : Bool) : Int := flag a - flag b
def cmpP (p q : Pl) : Int := thn (cmpI p.k q.k) (thn (cmpI p.l q.l) (thn (cmpI p.h q.h) (thn (cmpS p.s q.s) (thn (cmpB p.a q.a) (thn (cmpB p.m q.m) (cmpB p.o q.o))))))
/-- The order of terms. -/
def cmpT : (n : Nat) → Trm n → Trm n → Int
  | 0 => fun a => Empty.elim a
  | n + 1 => fun a b => thn (cmpP a.1 b.1) (lex (fun f g => thn (cmpS f.1 g.1) (lex (cmpT n) f.2 g.2)) a.2 b.2)
/-- The order of values. -/
def cmpV (n : Nat) (a b : List (Trm n)) : Int := lex (cmpT n) a b

theorem cmpI_tri : Tri cmpI := by
  refine ⟨?_, ?_, ?_⟩ <;> (intros; unfold cmpI at *; grind)
theorem cmpB_tri : Tri cmpB := by
  refine ⟨?_, ?_, ?_⟩
  · intro a b; cases a <;> cases b <;> simp [cmpB, flag]
  · intro a b; cases a <;> cases b <;> simp [cmpB, flag]
  · intro a b d; cases a <;> cases b <;> cases d <;> simp [cmpB, flag]
def cmpU (a b : UInt8) : Int := cmpI a.toNat b.toNat
theorem cmpU_tri : Tri cmpU := cmpI_tri.on' (fun a : UInt8 => (a.toNat : Int))
theorem bytes_lex : ∀ l m : List UInt8, Lib.compareBytes l m = lex cmpU l m
  | [], [] => rfl
  | [], _ :: _ => rfl
  | _ :: _, [] => rfl
  | a :: l, b :: m => by
    have ih := bytes_lex l m
    have e1 : a < b ↔ ((a.toNat : Int) < b.toNat) := by rw [UInt8.lt_iff_toNat_lt]; omega
    have e2 : b < a ↔ ((b.toNat : Int) < a.toNat) := by rw [UInt8.lt_iff_toNat_lt]; omega
    simp only [Lib.compareBytes, lex, thn, cmpU, cmpI, ih, e1, e2]
    split
    · simp
    · split
      · simp
      · simp
theorem cmpS_tri : Tri cmpS := by
  have h := (lex_tri cmpU_tri).on' (fun s : ByteArray => s.data.toList)
  have e : cmpS = fun a b : ByteArray => lex cmpU a.data.toList b.data.toList := by funext a b; exact bytes_lex _ _
  rw [e]; exact h
theorem cmpP_tri : Tri cmpP :=
  (cmpI_tri.on' Pl.k).thn ((cmpI_tri.on' Pl.l).thn ((cmpI_tri.on' Pl.h).thn ((cmpS_tri.on' Pl.s).thn ((cmpB_tri.on' Pl.a).thn ((cmpB_tri.on' Pl.m).thn (cmpB_tri.on' Pl.o))))))
/-- The order is total. -/
theorem cmpT_tri : ∀ n, Tri (cmpT n)
  | 0 => ⟨fun a => Empty.elim a, fun a => Empty.elim a, fun a => Empty.elim a⟩
  | n + 1 => (cmpP_tri.on' (fun t : Trm (n + 1) => t.1)).thn ((lex_tri ((cmpS_tri.on' (fun f : ByteArray × List (Trm n) => f.1)).thn ((lex_tri (cmpT_tri n)).on' (fun f : ByteArray × List (Trm n) => f.2)))).on' (fun t : Trm (n + 1) => t.2))
theorem cmpV_tri (n : Nat) : Tri (cmpV n) := lex_tri (cmpT_tri n)
end Go.Proofs.Ytigdibglkejciaa.Rank
