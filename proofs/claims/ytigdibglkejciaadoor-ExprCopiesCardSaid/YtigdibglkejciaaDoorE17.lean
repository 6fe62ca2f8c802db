/-
  The depth at every depth; all expressions of an expression, plain.
-/
import Derived.Test.YtigdibglkejciaaDoorE16
namespace Go.Proofs.YtigdibglkejciaaDoor.Ex
open Go.RowKit Go
set_option linter.unusedSimpArgs false

theorem depthR_ok : ∀ n, DepthROk n
  | 0 => fun _ _ _ x => x.elim
  | n + 1 => depthR_succ n (Lib.hid (depthR_ok n))
theorem depth_ok : ∀ n, DepthOk n
  | 0 => fun _ _ _ x => x.elim
  | n + 1 => depth_succ n (Lib.hid (depth_ok n))
/-- An expression of some depth. -/
abbrev AE : Type := (n : Nat) × Ex n
/-- All expressions in order. -/
def allE : (n : Nat) → Ex n → List AE
  | 0, x => x.elim
  | n + 1, x => ⟨n + 1, x⟩ :: (partsE n x).flatMap (allE n)
theorem sumL_map {α β : Type} (f : β → Nat) (g : α → β) : ∀ l : List α, sumL f (l.map g) = sumL (fun x => f (g x)) l
  | [] => rfl
  | x :: l => by simp only [List.map_cons, sumL]; rw [sumL_map f g l]
theorem len_flatMap {α β : Type} (f : α → List β) : ∀ l : List α, (l.flatMap f).length = sumL (fun x => (f x).length) l
  | [] => rfl
  | x :: l => by simp only [List.flatMap_cons, List.length_append, sumL]; rw [len_flatMap f l]
theorem sumL_le {α : Type} (f g : α → Nat) (h : ∀ x, f x ≤ g x) : ∀ l : List α, sumL f l ≤ sumL g l
  | [] => Nat.le_refl _
  | x :: l => by have := h x; have := sumL_le f g h l; simp only [sumL]; omega
/-- There are no more than are counted. -/
theorem all_le : ∀ (n : Nat) (x : Ex n), (allE n x).length ≤ cnt n x
  | 0, x => x.elim
  | n + 1, x => by
    have hk := sumL_le (fun y => (allE n y).length) (cnt n) (all_le n)
    simp only [allE, cnt, List.length_cons]
    rw [len_flatMap]
    unfold partsE
    split
    · rw [sumL_map]
      have := sumL_le (fun p : ByteArray × Ex n => (allE n p.2).length) (fun p => cnt n p.2) (fun p => all_le n p.2) x.2.2.1
      omega
    · have := hk x.2.2.2
      omega
end Go.Proofs.YtigdibglkejciaaDoor.Ex
