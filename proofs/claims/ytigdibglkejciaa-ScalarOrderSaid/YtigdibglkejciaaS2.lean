/-
  The reference's Right (treillageref07) tells the same as the program's.
-/
import Derived.Test.YtigdibglkejciaaS1
namespace Go.Proofs.Ytigdibglkejciaa.Sca
open Go.RowKit

theorem nil_size (s : ByteArray) (h : s.toList = []) : s.size = 0 := by
  rw [toList_nil_iff_emptyBytes] at h; rw [h]; rfl

/-- The reference's text, b: is it one thing? -/
def rightR (k l h : Int) (s : ByteArray) (a m o : Bool) (n : Nat) (b : Bool) : Bool :=
  if o || decide (0 < (n : Int)) || m && b then false
  else if k == 3 then (if l != 0 || h != 0 || decide (256 < (s.size : Int)) then false else !a || s.toList.isEmpty)
  else if !s.toList.isEmpty || a || decide (h < l) then false
  else if k == 1 then decide (0 ≤ l) && decide (h ≤ 1)
  else k == 2 && decide (-9007199254740992 ≤ l) && decide (h ≤ 9007199254740992)

theorem rightR_eq (k l h : Int) (s : ByteArray) (a m o : Bool) (n : Nat) : rightR k l h s a m o n (one k l h a) = right k l h s a m o n := by
  unfold rightR right bare
  have hs := nil_size s
  generalize one k l h a = b
  by_cases hz : s.toList = []
  · have := hs hz
    cases o <;> cases a <;> cases m <;> cases b <;> simp [hz] <;> grind
  · cases o <;> cases a <;> cases m <;> cases b <;> simp [hz] <;> grind

theorem single_b (xk xl xh : Int) (xs : ByteArray) (xa xm xo : Bool) (xf : Option Addr) (xn xc : Nat) (b : Bool) (hb : Hid (one xk xl xh xa = b)) (w : World) :
    Calls Try.prog 23 #[.agg #[.int .i64 xk, .int .i64 xl, .int .i64 xh, .string xs, .bool xa, .bool xm, .bool xo, .slice xf xn xc]] w fun e w' => e = .returned (.bool b) ∧ Below w.heap.size w w' := by
  have := hb.out; subst this; exact single_any xk xl xh xs xa xm xo xf xn xc w

set_option maxHeartbeats 4000000 in
theorem rightRef_b (xk xl xh : Int) (xs : ByteArray) (xa xm xo : Bool) (xf : Option Addr) (xn xc : Nat) (b : Bool) (hb : Hid (one xk xl xh xa = b)) (w : World) :
    Calls Try.prog 20 #[.agg #[.int .i64 xk, .int .i64 xl, .int .i64 xh, .string xs, .bool xa, .bool xm, .bool xo, .slice xf xn xc]] w fun e w' => e = .returned (.bool (rightR xk xl xh xs xa xm xo xn b)) ∧ Below w.heap.size w w' := by
  go_enter Try.func20, Try.ntmps20
  go_wp2_with ((go_at_call 23; refine (single_b _ _ _ _ _ _ _ _ _ _ b hb _).mono ?_; rintro e w1 ⟨rfl, hb_w1⟩; obtain ⟨hc_w1, hf_w1⟩ := bcell hb_w1; have hs_w1 := hb_w1.size; (try simp only [World.size_alloc] at hs_w1); have hk_w1_0 : w.heap.size < w1.heap.size := (by omega)))
  all_goals go_ret
  all_goals refine ⟨ret_bool ?_, ?_⟩
  all_goals first | (simp [rightR, *]; done) | (simp [rightR, *]; intros; omega) | ((repeat (first | exact Below.refl _ _ | assumption | (refine Below.alloc ?_ (by first | omega | (simp; done) | (simp; omega)) _) | (refine Below.setCell ?_ (by first | omega | (simp; done) | (simp; omega)) _) | (refine Below.trans ?_ (Below.mono (by assumption) (by first | omega | (simp; done) | (simp; omega)))))); done)
theorem rightRef_any (xk xl xh : Int) (xs : ByteArray) (xa xm xo : Bool) (xf : Option Addr) (xn xc : Nat) (w : World) :
    Calls Try.prog 20 #[.agg #[.int .i64 xk, .int .i64 xl, .int .i64 xh, .string xs, .bool xa, .bool xm, .bool xo, .slice xf xn xc]] w fun e w' => e = .returned (.bool (right xk xl xh xs xa xm xo xn)) ∧ Below w.heap.size w w' := by
  rw [← rightR_eq]
  exact rightRef_b xk xl xh xs xa xm xo xf xn xc _ (rfl : one xk xl xh xa = _) w
end Go.Proofs.Ytigdibglkejciaa.Sca
