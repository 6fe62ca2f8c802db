/-
  All expressions in order: the walk.
-/
import Derived.Test.YtigdibglkejciaaDoorE18
namespace Go.Proofs.YtigdibglkejciaaDoor.Ex
open Go.RowKit Go
set_option linter.unusedSimpArgs false

def allK (n : Nat) (x : Ex (n + 1)) (k : Nat) : List AE := ⟨n + 1, x⟩ :: ((partsE n x).take k).flatMap (allE n)
theorem allK_succ (n : Nat) (x : Ex (n + 1)) (k : Nat) (h : k < (partsE n x).length) : allK n x (k + 1) = allK n x k ++ allE n (partsE n x)[k] := by
  unfold allK
  rw [List.take_succ_eq_append_getElem h, List.flatMap_append]
  simp
theorem allK_all (n : Nat) (x : Ex (n + 1)) (k : Nat) (h : (partsE n x).length ≤ k) : allK n x k = allE (n + 1) x := by
  unfold allK
  rw [List.take_of_length_le h]
  rfl
theorem sub_len (l : List AE) (l' : List AE) : (l ++ l').length = l.length + l'.length := List.length_append
end Go.Proofs.YtigdibglkejciaaDoor.Ex
