/-
  The depth of an expression: plain laws.
-/
import Derived.Test.YtigdibglkejciaaDoorE13
namespace Go.Proofs.YtigdibglkejciaaDoor.Ex
open Go.RowKit Go
set_option linter.unusedSimpArgs false

def maxL {α : Type} (f : α → Nat) : List α → Nat
  | [] => 0
  | x :: l => max (f x) (maxL f l)
theorem maxL_snoc {α : Type} (f : α → Nat) (x : α) : ∀ l : List α, maxL f (l ++ [x]) = max (maxL f l) (f x)
  | [] => by simp [maxL]
  | y :: l => by simp only [List.cons_append, maxL]; rw [maxL_snoc f x l]; omega
theorem maxL_take {α : Type} (f : α → Nat) (l : List α) (k : Nat) (h : k < l.length) : maxL f (l.take (k + 1)) = max (maxL f (l.take k)) (f l[k]) := by
  rw [List.take_succ_eq_append_getElem h, maxL_snoc]
theorem maxL_le {α : Type} (f : α → Nat) (b : Nat) : ∀ l : List α, (∀ i (h : i < l.length), f l[i] ≤ b) → maxL f l ≤ b
  | [], _ => Nat.zero_le _
  | x :: l, h => by
    have h1 := h 0 (by simp)
    have h2 := maxL_le f b l (fun i hi => h (i + 1) (by simpa using hi))
    simp only [maxL]
    simp at h1
    omega
def depthE : (n : Nat) → Ex n → Nat
  | 0, x => x.elim
  | n + 1, x => 1 + maxL (depthE n) (partsE n x)
theorem parts_small {n d : Nat} {x : Ex (n + 1)} (h : SmallE (n + 1) d x) : (partsE n x).length ≤ 200 ∧ ∀ i (hi : i < (partsE n x).length), SmallE n (d - 1) (partsE n x)[i] := by
  obtain ⟨_, _, _, h3, h4, _, h6, h7⟩ := h
  unfold partsE
  split
  · refine ⟨by simpa using h3, fun i hi => ?_⟩
    rw [List.getElem_map]
    exact (h6 i (by simpa using hi)).2
  · exact ⟨h4, h7⟩
theorem depth_le : ∀ (n d : Nat) (x : Ex n), SmallE n d x → depthE n x ≤ d
  | 0, _, x, _ => x.elim
  | n + 1, d, x, h => by
    have h1 := h.1
    have := maxL_le (depthE n) (d - 1) (partsE n x) (fun i hi => depth_le n (d - 1) _ ((parts_small h).2 i hi))
    simp only [depthE]
    omega
end Go.Proofs.YtigdibglkejciaaDoor.Ex
