/-
  All expressions in order: the reference's walk.
-/
import Derived.Test.YtigdibglkejciaaDoorE17
namespace Go.Proofs.YtigdibglkejciaaDoor.Ex
open Go.RowKit Go
set_option linter.unusedSimpArgs false

/-- A row of expressions of the call's own, told by their cells; what they lead to lies below. -/
def AllIn (W0 : World) (B base : Nat) (W : World) (u : Value) (l : List AE) : Prop := ∃ (vs : List V7), W.ownsRow base 26 7 u l.length (vcells vs) ∧ vs.length = l.length ∧ ∀ i (h1 : i < vs.length) (h2 : i < l.length), ExIn W0 B l[i].1 vs[i] l[i].2
def AllPost (l : List AE) (B : Nat) (w : World) (e : Ending) (w' : World) : Prop := ∃ a cap, e = .returned (.slice a l.length cap) ∧ AllIn w' B w.heap.size w' (.slice a l.length cap) l ∧ Below w.heap.size w w'
def AllOk (n : Nat) : Prop := ∀ (w : World) (B : Nat) (v : V7) (x : Ex n) (d : Nat), B ≤ w.heap.size → SmallE n d x → cnt n x ≤ 200 → ExIn w B n v x → Calls Tryd.prog 8 #[.agg #[.int .i64 v.op, .int .i64 v.num, .string v.tx, .slice v.pa v.pl v.pc, .slice v.qa v.ql v.qc, .bool v.opn, .slice v.ka v.kl v.kc]] w (AllPost (allE n x) B w)
theorem AllIn.append {W0 : World} {B base : Nat} {W : World} {u : Value} {l l' : List AE} {vs vs' : List V7} (hl : vs.length = l.length) (hl' : vs'.length = l'.length) (h : ∀ i (h1 : i < vs.length) (h2 : i < l.length), ExIn W0 B l[i].1 vs[i] l[i].2) (h' : ∀ i (h1 : i < vs'.length) (h2 : i < l'.length), ExIn W0 B l'[i].1 vs'[i] l'[i].2)
    (hr : W.ownsRow base 26 7 u (l ++ l').length (vcells (vs ++ vs'))) : AllIn W0 B base W u (l ++ l') := by
  refine ⟨vs ++ vs', hr, by simp [hl, hl'], fun i h1 h2 => ?_⟩
  by_cases hi : i < vs.length
  · have e1 : (vs ++ vs')[i] = vs[i] := List.getElem_append_left hi
    have e2 : (l ++ l')[i] = l[i]'(by omega) := List.getElem_append_left (by omega)
    rw [e1, e2]
    exact h i hi (by omega)
  · have e1 : (vs ++ vs')[i] = vs'[i - vs.length]'(by simp at h1; omega) := List.getElem_append_right (by omega)
    have e2 : (l ++ l')[i] = l'[i - l.length]'(by simp at h2; omega) := List.getElem_append_right (by omega)
    have e3 : i - vs.length = i - l.length := by omega
    rw [e1, e2]
    have := h' (i - l.length) (by simp at h1; omega) (by simp at h2; omega)
    simp only [e3]
    exact this
end Go.Proofs.YtigdibglkejciaaDoor.Ex
