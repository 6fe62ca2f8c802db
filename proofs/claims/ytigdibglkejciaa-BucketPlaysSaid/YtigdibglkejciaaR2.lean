/-
  Values in memory: how a slice of terms reads, by depth; and when another memory reads the same.
-/
import Derived.Test.YtigdibglkejciaaR1
import Derived.Below
namespace Go.Proofs.Ytigdibglkejciaa.Rank
open Go.RowKit

/-- The plain fields of a term as a slice of terms holds them (eight cells a term). -/
def PlAt (W : World) (b off : Nat) (i : Nat) (p : Pl) (fa : Option Addr) (fl fc : Nat) : Prop :=
  W.cell? ⟨b, off + i * 8, none⟩ = some (.int .i64 p.k) ∧ W.cell? ⟨b, off + i * 8 + 1, none⟩ = some (.int .i64 p.l) ∧
    W.cell? ⟨b, off + i * 8 + 2, none⟩ = some (.int .i64 p.h) ∧ W.cell? ⟨b, off + i * 8 + 3, none⟩ = some (.string p.s) ∧ W.cell? ⟨b, off + i * 8 + 4, none⟩ = some (.bool p.a) ∧
    W.cell? ⟨b, off + i * 8 + 5, none⟩ = some (.bool p.m) ∧ W.cell? ⟨b, off + i * 8 + 6, none⟩ = some (.bool p.o) ∧ W.cell? ⟨b, off + i * 8 + 7, none⟩ = some (.slice fa fl fc)
/-- Field i of a slice of fields lies so (two cells a field). -/
def FAt {α : Type} (V : Option Addr → Nat → Nat → List α → Prop) (W : World) (b off : Nat) (i : Nat) (f : ByteArray × List α) : Prop :=
  W.cell? ⟨b, off + i * 2, none⟩ = some (.string f.1) ∧ ∃ ta tl tc, W.cell? ⟨b, off + i * 2 + 1, none⟩ = some (.slice ta tl tc) ∧ V ta tl tc f.2
/-- A slice of fields. -/
def FsAt {α : Type} (V : Option Addr → Nat → Nat → List α → Prop) (W : World) (QF : Nat → Nat → Prop) (a : Option Addr) (len cap : Nat) (fs : List (ByteArray × List α)) : Prop :=
  len = fs.length ∧ len ≤ cap ∧ cap ≤ maxLen ∧ (a = none → cap = 0) ∧ (fs ≠ [] → ∃ b off, a = some ⟨b, off, none⟩ ∧ QF b off ∧ ∀ i (hi : i < fs.length), FAt V W b off i fs[i])
/-- A slice of terms reads as a value. QT, QF: where the slices of terms and those of fields lie. -/
def ValAt (W : World) (QT QF : Nat → Nat → Prop) : (n : Nat) → Option Addr → Nat → Nat → List (Trm n) → Prop
  | 0 => fun a len cap _ => len = 0 ∧ cap ≤ maxLen ∧ (a = none → cap = 0)
  | n + 1 => fun a len cap v => len = v.length ∧ len ≤ cap ∧ cap ≤ maxLen ∧ (a = none → cap = 0) ∧ (v ≠ [] → ∃ b off, a = some ⟨b, off, none⟩ ∧ QT b off ∧
      ∀ i (hi : i < v.length), ∃ fa fl fc, PlAt W b off i v[i].1 fa fl fc ∧ FsAt (ValAt W QT QF n) W QF fa fl fc v[i].2)
/-- Nothing that is read has changed. -/
def Kept (QT QF : Nat → Nat → Prop) (W W' : World) : Prop :=
  (∀ b off, QT b off → ∀ o, W'.cell? ⟨b, o, none⟩ = W.cell? ⟨b, o, none⟩) ∧ (∀ b off, QF b off → ∀ o, W'.cell? ⟨b, o, none⟩ = W.cell? ⟨b, o, none⟩)
theorem PlAt.kept {W W' : World} {b off i : Nat} {p : Pl} {fa : Option Addr} {fl fc : Nat} (h : ∀ o, W'.cell? ⟨b, o, none⟩ = W.cell? ⟨b, o, none⟩) (hp : PlAt W b off i p fa fl fc) : PlAt W' b off i p fa fl fc := by
  obtain ⟨c0, c1, c2, c3, c4, c5, c6, c7⟩ := hp
  exact ⟨(h _).trans c0, (h _).trans c1, (h _).trans c2, (h _).trans c3, (h _).trans c4, (h _).trans c5, (h _).trans c6, (h _).trans c7⟩
theorem FsAt.kept {α : Type} {V V' : Option Addr → Nat → Nat → List α → Prop} {W W' : World} {QT QF : Nat → Nat → Prop} (h : Kept QT QF W W') (hV : ∀ a l c v, V a l c v → V' a l c v) {a : Option Addr} {len cap : Nat} {fs : List (ByteArray × List α)}
    (hf : FsAt V W QF a len cap fs) : FsAt V' W' QF a len cap fs := by
  obtain ⟨h1, h2, h3, h4, h5⟩ := hf
  refine ⟨h1, h2, h3, h4, fun hne => ?_⟩
  obtain ⟨b, off, e, hq, hi⟩ := h5 hne
  refine ⟨b, off, e, hq, fun i hi' => ?_⟩
  obtain ⟨c0, ta, tl, tc, c1, hv⟩ := hi i hi'
  exact ⟨(h.2 _ _ hq _).trans c0, ta, tl, tc, (h.2 _ _ hq _).trans c1, hV _ _ _ _ hv⟩
theorem ValAt.kept {W W' : World} {QT QF : Nat → Nat → Prop} (h : Kept QT QF W W') : ∀ {n : Nat} {a : Option Addr} {len cap : Nat} {v : List (Trm n)}, ValAt W QT QF n a len cap v → ValAt W' QT QF n a len cap v
  | 0, _, _, _, _, hv => hv
  | n + 1, a, len, cap, v, ⟨h1, h2, h3, h4, h5⟩ => by
    refine ⟨h1, h2, h3, h4, fun hne => ?_⟩
    obtain ⟨b, off, e, hq, hi⟩ := h5 hne
    refine ⟨b, off, e, hq, fun i hi' => ?_⟩
    obtain ⟨fa, fl, fc, hp, hf⟩ := hi i hi'
    exact ⟨fa, fl, fc, hp.kept (h.1 _ _ hq), hf.kept h (fun _ _ _ _ hv => ValAt.kept h hv)⟩
theorem FsAt.mono {α : Type} {V V' : Option Addr → Nat → Nat → List α → Prop} {W : World} {QF QF' : Nat → Nat → Prop} (h : ∀ b o, QF b o → QF' b o) (hV : ∀ a l c v, V a l c v → V' a l c v) {a : Option Addr} {len cap : Nat} {fs : List (ByteArray × List α)}
    (hf : FsAt V W QF a len cap fs) : FsAt V' W QF' a len cap fs := by
  obtain ⟨h1, h2, h3, h4, h5⟩ := hf
  refine ⟨h1, h2, h3, h4, fun hne => ?_⟩
  obtain ⟨b, off, e, hq, hi⟩ := h5 hne
  refine ⟨b, off, e, h _ _ hq, fun i hi' => ?_⟩
  obtain ⟨c0, ta, tl, tc, c1, hv⟩ := hi i hi'
  exact ⟨c0, ta, tl, tc, c1, hV _ _ _ _ hv⟩
theorem ValAt.mono {W : World} {QT QF QT' QF' : Nat → Nat → Prop} (ht : ∀ b o, QT b o → QT' b o) (hf : ∀ b o, QF b o → QF' b o) : ∀ {n : Nat} {a : Option Addr} {len cap : Nat} {v : List (Trm n)}, ValAt W QT QF n a len cap v → ValAt W QT' QF' n a len cap v
  | 0, _, _, _, _, hv => hv
  | n + 1, a, len, cap, v, ⟨h1, h2, h3, h4, h5⟩ => by
    refine ⟨h1, h2, h3, h4, fun hne => ?_⟩
    obtain ⟨b, off, e, hq, hi⟩ := h5 hne
    refine ⟨b, off, e, ht _ _ hq, fun i hi' => ?_⟩
    obtain ⟨fa, fl, fc, hp, hg⟩ := hi i hi'
    exact ⟨fa, fl, fc, hp, hg.mono hf (fun _ _ _ _ hv => ValAt.mono ht hf hv)⟩

/-- All of it lies below block B. -/
def lt (B : Nat) (b _ : Nat) : Prop := b < B
def ValIn (W : World) (B : Nat) (n : Nat) (a : Option Addr) (len cap : Nat) (v : List (Trm n)) : Prop := ValAt W (lt B) (lt B) n a len cap v
def FsIn (W : World) (B : Nat) (n : Nat) (a : Option Addr) (len cap : Nat) (fs : List (ByteArray × List (Trm n))) : Prop := FsAt (ValIn W B n) W (lt B) a len cap fs
theorem kept_below {W W' : World} {B : Nat} (h : Below B W W') : Kept (lt B) (lt B) W W' :=
  ⟨fun b _ hb o => h.cell (p := ⟨b, o, none⟩) hb, fun b _ hb o => h.cell (p := ⟨b, o, none⟩) hb⟩
theorem ValIn.below {W W' : World} {B n : Nat} {a : Option Addr} {len cap : Nat} {v : List (Trm n)} (h : ValIn W B n a len cap v) (hb : Below B W W') : ValIn W' B n a len cap v := ValAt.kept (kept_below hb) h
theorem FsIn.below {W W' : World} {B n : Nat} {a : Option Addr} {len cap : Nat} {fs : List (ByteArray × List (Trm n))} (h : FsIn W B n a len cap fs) (hb : Below B W W') : FsIn W' B n a len cap fs :=
  FsAt.kept (kept_below hb) (fun _ _ _ _ hv => ValAt.kept (kept_below hb) hv) h
theorem ValIn.len {W : World} {B n : Nat} {a : Option Addr} {len cap : Nat} {v : List (Trm n)} (h : ValIn W B n a len cap v) : len = v.length := by
  cases n with
  | zero => cases v with
    | nil => exact h.1
    | cons x _ => exact Empty.elim x
  | succ n => exact h.1
theorem ValIn.bound {W : World} {B n : Nat} {a : Option Addr} {len cap : Nat} {v : List (Trm n)} (h : ValIn W B n a len cap v) : len ≤ 9223372036854775807 := by
  cases n with
  | zero => have := h.1; omega
  | succ n => obtain ⟨_, h2, h3, _⟩ := h; unfold maxLen at h3; omega
theorem FsIn.len {W : World} {B n : Nat} {a : Option Addr} {len cap : Nat} {v : List (ByteArray × List (Trm n))} (h : FsIn W B n a len cap v) : len = v.length := h.1
theorem FsIn.bound {W : World} {B n : Nat} {a : Option Addr} {len cap : Nat} {v : List (ByteArray × List (Trm n))} (h : FsIn W B n a len cap v) : len ≤ 9223372036854775807 := by
  obtain ⟨_, h2, h3, _⟩ := h; unfold maxLen at h3; omega
end Go.Proofs.Ytigdibglkejciaa.Rank
