/-
  The reference's comparisons: numbers, texts, bools, plain fields.
-/
import Derived.Test.YtigdibglkejciaaR6
import Derived.WalkLawsBesides
namespace Go.Proofs.Ytigdibglkejciaa.Rank
open Go.RowKit

theorem nums_any (a b : Int) (w : World) : Calls Try.prog 75 #[.int .i64 a, .int .i64 b] w fun e w' => e = .returned (.int .i64 (cmpI a b)) ∧ w = w' := by
  by_cases h1 : a < b
  · have H : Hid (cmpI a b = -1) := by unfold cmpI; rw [if_pos h1]; rfl
    go_enter Try.func75, Try.ntmps75
    go_wp2
    go_ret
    exact ⟨ret_int H.out.symm, rfl⟩
  · by_cases h2 : b < a
    · have H : Hid (cmpI a b = 1) := by unfold cmpI; rw [if_neg h1, if_pos h2]; rfl
      go_enter Try.func75, Try.ntmps75
      go_wp2
      go_ret
      exact ⟨ret_int H.out.symm, rfl⟩
    · have H : Hid (cmpI a b = 0) := by unfold cmpI; rw [if_neg h1, if_neg h2]; rfl
      go_enter Try.func75, Try.ntmps75
      go_wp2
      go_ret
      exact ⟨ret_int H.out.symm, rfl⟩
theorem bools_any (a b : Bool) (w : World) : Calls Try.prog 84 #[.bool a, .bool b] w fun e w' => e = .returned (.int .i64 (cmpB a b)) ∧ w = w' := by
  cases a <;> cases b
  all_goals
    go_enter Try.func84, Try.ntmps84
    go_wp2
    go_ret
    exact ⟨rfl, rfl⟩
theorem bytesLess_cmp : ∀ l m : List UInt8, Lib.compareBytes l m = if Op.bytesLess l m = true then -1 else if l = m then 0 else 1
  | [], [] => by simp [Lib.compareBytes, Op.bytesLess]
  | [], _ :: _ => by simp [Lib.compareBytes, Op.bytesLess]
  | _ :: _, [] => by simp [Lib.compareBytes, Op.bytesLess]
  | a :: l, b :: m => by
    have ih := bytesLess_cmp l m
    simp only [Lib.compareBytes, Op.bytesLess]
    by_cases h : a < b
    · simp [h]
    · by_cases h2 : b < a
      · have : a ≠ b := by rintro rfl; exact h h2
        simp [h, h2, this]
      · obtain rfl : a = b := by
          have e1 : ¬ a.toNat < b.toNat := fun g => h (UInt8.lt_iff_toNat_lt.2 g)
          have e2 : ¬ b.toNat < a.toNat := fun g => h2 (UInt8.lt_iff_toNat_lt.2 g)
          exact UInt8.toNat_inj.1 (by omega)
        simp [h, ih]
theorem cmpS_less (a b : ByteArray) : cmpS a b = if Op.bytesLess a.toList b.toList = true then -1 else if a.toList = b.toList then 0 else 1 := by
  rw [cmpS, bytesLess_cmp, ByteArray.toList_eq, ByteArray.toList_eq]
theorem texts_any (a b : ByteArray) (w : World) : Calls Try.prog 74 #[.string a, .string b] w fun e w' => e = .returned (.int .i64 (cmpS a b)) ∧ w = w' := by
  have H := Lib.hid (cmpS_less a b)
  go_enter Try.func74, Try.ntmps74
  go_wp2
  all_goals go_ret
  all_goals exact ⟨ret_int (by rw [H.out]; simp_all), rfl⟩
theorem cmpI_eq0 (a b : Int) : cmpI a b = 0 ↔ a = b := by unfold cmpI; split <;> (try split) <;> omega
theorem cmpB_eq0 (a b : Bool) : cmpB a b = 0 ↔ a = b := by cases a <;> cases b <;> decide
theorem bytes_eq0 : ∀ l m : List UInt8, Lib.compareBytes l m = 0 ↔ l = m := by
  intro l m
  have h1 := bytesLess_cmp l m
  have h2 := cmpS_tri.self ⟨⟨l⟩⟩
  rw [h1]
  by_cases h : l = m
  · subst h
    have h3 : Lib.compareBytes l l = 0 := h2
    have := h1.symm.trans h3
    simpa using this
  · simp [h]; split <;> simp
theorem cmpS_eq0 (a b : ByteArray) : cmpS a b = 0 ↔ a.toList = b.toList := by
  unfold cmpS
  rw [bytes_eq0, ByteArray.toList_eq, ByteArray.toList_eq]
set_option maxHeartbeats 2000000 in
theorem plain_any (xk xl xh : Int) (xs : ByteArray) (xa xm xo : Bool) (xf : Option Addr) (xn xc : Nat) (yk yl yh : Int) (ys : ByteArray) (ya ym yo : Bool) (yf : Option Addr) (yn yc : Nat) (w : World) :
    Calls Try.prog 73 #[.agg #[.int .i64 xk, .int .i64 xl, .int .i64 xh, .string xs, .bool xa, .bool xm, .bool xo, .slice xf xn xc], .agg #[.int .i64 yk, .int .i64 yl, .int .i64 yh, .string ys, .bool ya, .bool ym, .bool yo, .slice yf yn yc]] w
      fun e w' => e = .returned (.int .i64 (cmpP ⟨xk, xl, xh, xs, xa, xm, xo⟩ ⟨yk, yl, yh, ys, ya, ym, yo⟩)) ∧ Below w.heap.size w w' := by
  go_enter Try.func73, Try.ntmps73
  go_wp2_with (first | (go_at_call 75; (with_reducible refine (nums_any _ _ _).mono ?_); rintro e w1 ⟨rfl, rfl⟩) | (go_at_call 74; (with_reducible refine (texts_any _ _ _).mono ?_); rintro e w1 ⟨rfl, rfl⟩) | (go_at_call 84; (with_reducible refine (bools_any _ _ _).mono ?_); rintro e w1 ⟨rfl, rfl⟩))
  all_goals go_ret
  all_goals refine ⟨ret_int ?_, bel2 _ _ _⟩
  all_goals simp only [cmpP, thn, cmpI_eq0, cmpB_eq0, cmpS_eq0]
  all_goals simp only [bne_iff_ne, bne_eq_false_iff_eq, Bool.not_eq_true', Bool.not_eq_false', beq_iff_eq, beq_eq_false_iff_ne] at *
  all_goals simp [*]
end Go.Proofs.Ytigdibglkejciaa.Rank
