/-
  flag, first: the small functions of rank.
-/
import Derived.Test.YtigdibglkejciaaR3
namespace Go.Proofs.Ytigdibglkejciaa.Rank
open Go.RowKit

theorem flag_any (b : Bool) (w : World) : Calls Try.prog 70 #[.bool b] w fun e w' => e = .returned (.int .i64 (flag b)) ∧ w = w' := by
  cases b
  all_goals
    go_enter Try.func70, Try.ntmps70
    go_wp2
    go_ret
    exact ⟨rfl, rfl⟩

/-- The first that tells, of a list. -/
def fst (l : List Int) : Int := l.foldr thn 0
theorem fst_drop (l : List Int) (k : Nat) (h : k < l.length) : fst (l.drop k) = thn (l.getD k 0) (fst (l.drop (k + 1))) := by
  rw [List.drop_eq_getElem_cons h, show l.getD k 0 = l[k] from by simp [List.getD, h]]; rfl
theorem first_any (b off n c : Nat) (l : List Int) (w : World) (hn : n = l.length) (hm : n ≤ 9223372036854775807) (hc : ∀ j, j < l.length → w.cell? ⟨b, off + j, none⟩ = some (.int .i64 (l.getD j 0))) :
    Calls Try.prog 67 #[.slice (some ⟨b, off, none⟩) n c] w fun e w' => e = .returned (.int .i64 (fst l)) ∧ w = w' := by
  have HN := Lib.hid hn
  have HC := Lib.hid hc
  clear hn hc
  go_enter Try.func67, Try.ntmps67
  go_wp2
  go_loop [7] (fun i => ∃ k : Nat, k ≤ n ∧ i = .int .i64 k ∧ Hid (fst l = fst (l.drop k))) (fun i => n - (intOf i).toNat)
  case atStart => exact ⟨0, Nat.zero_le _, rfl, rfl⟩
  case round =>
    obtain ⟨k, hk, rfl, hf⟩ := hrel
    by_cases hlt : k < n
    · have c0 := HC.out k (by have := HN.out; omega)
      have hd := fst_drop l k (by have := HN.out; omega)
      generalize l.getD k 0 = z at c0 hd
      have HD := Lib.hid hd
      clear hd
      have i1 : (0 : Int) ≤ (k : Int) := by omega
      cases h0 : ((z : Int) != 0)
      · go_wp2
        go_round
        case rel => exact ⟨k + 1, by omega, by go_num, hf.out.trans (HD.out.trans (by unfold thn; rw [if_pos (by simpa using h0)]))⟩
        case measure => simp [intOf]; omega
      · go_wp2
        go_ret
        exact ⟨ret_int ((hf.out.trans HD.out).trans (by unfold thn; rw [if_neg (by simpa using h0)])).symm, rfl⟩
    · have HE : Hid (fst l = 0) := by
        have := HN.out
        rw [hf.out, List.drop_of_length_le (by omega)]; rfl
      go_wp2
      go_ret
      exact ⟨ret_int HE.out.symm, rfl⟩
theorem first8 (a0 a1 a2 a3 a4 a5 a6 a7 : Int) (w : World) :
    Calls Try.prog 67 #[.slice (some ⟨w.heap.size, 0, none⟩) 8 8] (w.alloc (.cells #[.int .i64 a0, .int .i64 a1, .int .i64 a2, .int .i64 a3, .int .i64 a4, .int .i64 a5, .int .i64 a6, .int .i64 a7] 3))
      fun e w' => e = .returned (.int .i64 (thn a0 (thn a1 (thn a2 (thn a3 (thn a4 (thn a5 (thn a6 (thn a7 0))))))))) ∧ w.alloc (.cells #[.int .i64 a0, .int .i64 a1, .int .i64 a2, .int .i64 a3, .int .i64 a4, .int .i64 a5, .int .i64 a6, .int .i64 a7] 3) = w' := by
  refine first_any w.heap.size 0 8 8 [a0, a1, a2, a3, a4, a5, a6, a7] _ rfl (by omega) fun j hj => ?_
  rw [World.cell?_alloc_new]
  match j, hj with
  | 0, _ => rfl
  | 1, _ => rfl
  | 2, _ => rfl
  | 3, _ => rfl
  | 4, _ => rfl
  | 5, _ => rfl
  | 6, _ => rfl
  | 7, _ => rfl
theorem first2 (a0 a1 : Int) (w : World) :
    Calls Try.prog 67 #[.slice (some ⟨w.heap.size, 0, none⟩) 2 2] (w.alloc (.cells #[.int .i64 a0, .int .i64 a1] 3))
      fun e w' => e = .returned (.int .i64 (thn a0 (thn a1 0))) ∧ w.alloc (.cells #[.int .i64 a0, .int .i64 a1] 3) = w' := by
  refine first_any w.heap.size 0 2 2 [a0, a1] _ rfl (by omega) fun j hj => ?_
  rw [World.cell?_alloc_new]
  match j, hj with
  | 0, _ => rfl
  | 1, _ => rfl
end Go.Proofs.Ytigdibglkejciaa.Rank
