/-
  All expressions in order: the walk.
-/
import Derived.Test.YtigdibglkejciaaDoorE19
namespace Go.Proofs.YtigdibglkejciaaDoor.Ex
open Go.RowKit Go
set_option linter.unusedSimpArgs false

theorem sumL_at {α : Type} (f : α → Nat) : ∀ (l : List α) (i : Nat) (h : i < l.length), f l[i] ≤ sumL f l
  | x :: l, 0, _ => by simp [sumL]
  | x :: l, i + 1, h => by have := sumL_at f l i (by simpa using h); simp only [sumL, List.getElem_cons_succ]; omega
theorem cnt_part {n : Nat} {x : Ex (n + 1)} (i : Nat) (h : i < (partsE n x).length) : cnt n (partsE n x)[i] ≤ cnt (n + 1) x := by
  have key : ∀ l : List (Ex n), l = partsE n x → sumL (cnt n) l ≤ cnt (n + 1) x := by
    rintro l rfl
    unfold partsE
    simp only [cnt]
    split
    · rw [sumL_map]; omega
    · omega
  exact Nat.le_trans (sumL_at (cnt n) _ i h) (key _ rfl)
theorem allK_le (n : Nat) (x : Ex (n + 1)) (k : Nat) : (allK n x k).length ≤ cnt (n + 1) x := by
  have h1 := all_le (n + 1) x
  have h2 : ((partsE n x).take k).flatMap (allE n) ++ ((partsE n x).drop k).flatMap (allE n) = (partsE n x).flatMap (allE n) := by rw [← List.flatMap_append, List.take_append_drop]
  have h3 : (allE (n + 1) x).length = 1 + ((partsE n x).flatMap (allE n)).length := by simp only [allE, List.length_cons]; omega
  have h4 : (allK n x k).length = 1 + (((partsE n x).take k).flatMap (allE n)).length := by simp only [allK, List.length_cons]; omega
  rw [← h2, List.length_append] at h3
  omega
end Go.Proofs.YtigdibglkejciaaDoor.Ex
