/-
  The page's example (rank).
-/
import Derived.Test.YtigdibglkejciaaR12
namespace Go.Proofs.Ytigdibglkejciaa.Rank
open Go.RowKit

theorem fs_nil (w : World) (B n : Nat) : FsIn w B n none 0 0 [] := ⟨rfl, Nat.le_refl _, by unfold maxLen; omega, fun _ => rfl, fun h => absurd rfl h⟩
theorem val_nil (w : World) (B n : Nat) : ValIn w B n none 0 0 [] := by
  cases n with
  | zero => exact ⟨rfl, by unfold maxLen; omega, fun _ => rfl⟩
  | succ n => exact ⟨rfl, Nat.le_refl _, by unfold maxLen; omega, fun _ => rfl, fun h => absurd rfl h⟩
theorem one_term (w : World) (k l h : Int) (s : ByteArray) (a m o : Bool) :
    ValIn (w.alloc (.cells #[.int .i64 k, .int .i64 l, .int .i64 h, .string s, .bool a, .bool m, .bool o, .slice none 0 0] 33)) (w.heap.size + 1) 1 (some ⟨w.heap.size, 0, none⟩) 1 1 [(⟨k, l, h, s, a, m, o⟩, [])] := by
  refine ⟨rfl, Nat.le_refl _, by unfold maxLen; omega, (fun h => by cases h), fun _ => ⟨w.heap.size, 0, rfl, by unfold lt; omega, fun i hi => ?_⟩⟩
  obtain rfl : i = 0 := by have : i < 1 := hi; omega
  refine ⟨none, 0, 0, ?_, fs_nil _ _ 0⟩
  refine ⟨?_, ?_, ?_, ?_, ?_, ?_, ?_, ?_⟩ <;> (rw [World.cell?_alloc_new]; rfl)
theorem terms_awake (w : World) : Calls Try.prog 40 #[.agg #[.int .i64 1, .int .i64 0, .int .i64 0, .string ⟨#[]⟩, .bool false, .bool false, .bool false, .slice none 0 0], .agg #[.int .i64 1, .int .i64 1, .int .i64 1, .string ⟨#[]⟩, .bool false, .bool false, .bool false, .slice none 0 0]] w
    fun e w' => e = .returned (.int .i64 (-1)) ∧ Below w.heap.size w w' :=
  (termsOk 0 w 0 (Nat.zero_le _) 1 0 0 ⟨#[]⟩ false false false none 0 0 1 1 1 ⟨#[]⟩ false false false none 0 0 [] [] (fs_nil _ _ _) (fs_nil _ _ _)).mono fun e w' ⟨he, hw⟩ => ⟨by rw [he]; exact ret_int (by decide +kernel), hw⟩
theorem compare_awake (w : World) : Calls Try.prog 34 #[.agg #[.slice none 0 0], .agg #[.slice (some ⟨w.heap.size, 0, none⟩) 1 1]] (w.alloc (.cells #[.int .i64 1, .int .i64 0, .int .i64 0, .string ⟨#[]⟩, .bool false, .bool false, .bool false, .slice none 0 0] 33))
    fun e w' => e = .returned (.int .i64 (-1)) ∧ Below w.heap.size w w' :=
  (compareOk 1 _ (w.heap.size + 1) (by simp) none 0 0 _ 1 1 [] _ (val_nil _ _ _) (one_term w 1 0 0 ⟨#[]⟩ false false false)).mono fun e w' ⟨he, hw⟩ => ⟨by rw [he]; rfl, (bel1 _ _).trans (hw.mono (by simp))⟩
theorem depth_awake (w : World) : Calls Try.prog 47 #[.agg #[.slice none 0 0]] w fun e w' => e = .returned (.int .i64 1) ∧ Below w.heap.size w w' :=
  (depthOk 0 w 0 (Nat.zero_le _) none 0 0 [] (val_nil _ _ _)).mono fun e w' ⟨he, hw⟩ => ⟨by rw [he]; rfl, hw⟩

set_option maxHeartbeats 1000000 in
theorem awake_any (w : World) : Calls Try.prog 33 #[] w fun e w' => e = .returned (.bool true) ∧ Below w.heap.size w w' := by
  go_enter Try.func33, Try.ntmps33
  go_wp2_with (first | (go_at_call 40; (with_reducible refine (terms_awake _).mono ?_); rintro e w1 ⟨rfl, hb1⟩; obtain ⟨hc1, hf1⟩ := bcell hb1; have hs1 := hb1.size; simp only [World.size_alloc] at hs1; have hk1 : w.heap.size < w1.heap.size := (by omega)) | (go_at_call 34; (with_reducible refine (compare_awake _).mono ?_); rintro e w2 ⟨rfl, hb2⟩) | (go_at_call 47; (with_reducible refine (depth_awake _).mono ?_); rintro e w3 ⟨rfl, hb3⟩))
  go_ret
  refine ⟨rfl, ?_⟩
  have hs2 := hb2.size
  have hs3 := hb3.size
  exact (bel2 _ _ _).trans ((hb1.mono (by simp; omega)).trans ((hb2.mono (by omega)).trans (hb3.mono (by omega))))
end Go.Proofs.Ytigdibglkejciaa.Rank
