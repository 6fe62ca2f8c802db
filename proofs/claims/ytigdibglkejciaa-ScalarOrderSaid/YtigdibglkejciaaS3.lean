/-
  Same and Atom: the program's and the reference's.
-/
import Derived.Test.YtigdibglkejciaaS2
namespace Go.Proofs.Ytigdibglkejciaa.Sca
open Go.RowKit

/-- The same right scalars? (r, q: are they right?) -/
def sameR (xk xl xh : Int) (xs : ByteArray) (xa xm : Bool) (yk yl yh : Int) (ys : ByteArray) (ya ym : Bool) (r q : Bool) : Bool :=
  r && q && xk == yk && xl == yl && xh == yh && xs.toList == ys.toList && xa == ya && xm == ym

theorem right_b (xk xl xh : Int) (xs : ByteArray) (xa xm xo : Bool) (xf : Option Addr) (xn xc : Nat) (b : Bool) (hb : Hid (right xk xl xh xs xa xm xo xn = b)) (w : World) :
    Calls Try.prog 21 #[.agg #[.int .i64 xk, .int .i64 xl, .int .i64 xh, .string xs, .bool xa, .bool xm, .bool xo, .slice xf xn xc]] w fun e w' => e = .returned (.bool b) ∧ Below w.heap.size w w' := by
  have := hb.out; subst this; exact right_any xk xl xh xs xa xm xo xf xn xc w
theorem rightRef_c (xk xl xh : Int) (xs : ByteArray) (xa xm xo : Bool) (xf : Option Addr) (xn xc : Nat) (b : Bool) (hb : Hid (right xk xl xh xs xa xm xo xn = b)) (w : World) :
    Calls Try.prog 20 #[.agg #[.int .i64 xk, .int .i64 xl, .int .i64 xh, .string xs, .bool xa, .bool xm, .bool xo, .slice xf xn xc]] w fun e w' => e = .returned (.bool b) ∧ Below w.heap.size w w' := by
  have := hb.out; subst this; exact rightRef_any xk xl xh xs xa xm xo xf xn xc w

theorem one_b (xk xl xh : Int) (xs : ByteArray) (xa xm xo : Bool) (xf : Option Addr) (xn xc : Nat) (b : Bool) (hb : Hid (one xk xl xh xa = b)) (w : World) :
    Calls Try.prog 62 #[.agg #[.int .i64 xk, .int .i64 xl, .int .i64 xh, .string xs, .bool xa, .bool xm, .bool xo, .slice xf xn xc]] w fun e w' => e = .returned (.bool b) ∧ Below w.heap.size w w' := by
  have := hb.out; subst this; exact one_any xk xl xh xs xa xm xo xf xn xc w

set_option maxHeartbeats 4000000 in
theorem same_b (xk xl xh : Int) (xs : ByteArray) (xa xm xo : Bool) (xf : Option Addr) (xn xc : Nat) (yk yl yh : Int) (ys : ByteArray) (ya ym yo : Bool) (yf : Option Addr) (yn yc : Nat) (r q : Bool) (hr : Hid (right xk xl xh xs xa xm xo xn = r)) (hq : Hid (right yk yl yh ys ya ym yo yn = q)) (w : World) :
    Calls Try.prog 24 #[.agg #[.int .i64 xk, .int .i64 xl, .int .i64 xh, .string xs, .bool xa, .bool xm, .bool xo, .slice xf xn xc], .agg #[.int .i64 yk, .int .i64 yl, .int .i64 yh, .string ys, .bool ya, .bool ym, .bool yo, .slice yf yn yc]] w fun e w' => e = .returned (.bool (sameR xk xl xh xs xa xm yk yl yh ys ya ym r q)) ∧ Below w.heap.size w w' := by
  cases r
  · go_enter Try.func24, Try.ntmps24
    go_wp2_with (first | (go_at_call 21; (with_reducible refine (right_b _ _ _ _ _ _ _ _ _ _ _ hr _).mono ?_); rintro e w1 ⟨rfl, hb_w1⟩; obtain ⟨hc_w1, hf_w1⟩ := bcell hb_w1; have hs_w1 := hb_w1.size; (try simp only [World.size_alloc] at hs_w1); have hk_w1_0 : w.heap.size < w1.heap.size := (by omega); have hk_w1_1 : w.heap.size + 1 < w1.heap.size := (by omega)))
    go_ret
    exact ⟨ret_bool (by simp [sameR]), by (repeat (first | exact Below.refl _ _ | assumption | (refine Below.alloc ?_ (by first | omega | (simp; done) | (simp; omega)) _) | (refine Below.setCell ?_ (by first | omega | (simp; done) | (simp; omega)) _) | (refine Below.trans ?_ (Below.mono (by assumption) (by first | omega | (simp; done) | (simp; omega))))))⟩
  · cases q
    · go_enter Try.func24, Try.ntmps24
      go_wp2_with (first | (go_at_call 21; (with_reducible refine (right_b _ _ _ _ _ _ _ _ _ _ _ hr _).mono ?_); clear hr; rintro e w1 ⟨rfl, hb_w1⟩; obtain ⟨hc_w1, hf_w1⟩ := bcell hb_w1; have hs_w1 := hb_w1.size; (try simp only [World.size_alloc] at hs_w1); have hk_w1_0 : w.heap.size < w1.heap.size := (by omega); have hk_w1_1 : w.heap.size + 1 < w1.heap.size := (by omega)) | (go_at_call 21; (with_reducible refine (right_b _ _ _ _ _ _ _ _ _ _ _ hq _).mono ?_); rintro e w2 ⟨rfl, hb_w2⟩; obtain ⟨hc_w2, hf_w2⟩ := bcell hb_w2; have hs_w2 := hb_w2.size; (try simp only [World.size_alloc] at hs_w2); have hk_w2_0 : w.heap.size < w2.heap.size := (by omega); have hk_w2_1 : w.heap.size + 1 < w2.heap.size := (by omega)))
      go_ret
      exact ⟨ret_bool (by simp [sameR]), by (repeat (first | exact Below.refl _ _ | assumption | (refine Below.alloc ?_ (by first | omega | (simp; done) | (simp; omega)) _) | (refine Below.setCell ?_ (by first | omega | (simp; done) | (simp; omega)) _) | (refine Below.trans ?_ (Below.mono (by assumption) (by first | omega | (simp; done) | (simp; omega))))))⟩
    · go_enter Try.func24, Try.ntmps24
      go_wp2_with (first | (go_at_call 21; (with_reducible refine (right_b _ _ _ _ _ _ _ _ _ _ _ hr _).mono ?_); clear hr; rintro e w1 ⟨rfl, hb_w1⟩; obtain ⟨hc_w1, hf_w1⟩ := bcell hb_w1; have hs_w1 := hb_w1.size; (try simp only [World.size_alloc] at hs_w1); have hk_w1_0 : w.heap.size < w1.heap.size := (by omega); have hk_w1_1 : w.heap.size + 1 < w1.heap.size := (by omega)) | (go_at_call 21; (with_reducible refine (right_b _ _ _ _ _ _ _ _ _ _ _ hq _).mono ?_); rintro e w2 ⟨rfl, hb_w2⟩; obtain ⟨hc_w2, hf_w2⟩ := bcell hb_w2; have hs_w2 := hb_w2.size; (try simp only [World.size_alloc] at hs_w2); have hk_w2_0 : w.heap.size < w2.heap.size := (by omega); have hk_w2_1 : w.heap.size + 1 < w2.heap.size := (by omega)))
      all_goals go_ret
      all_goals refine ⟨ret_bool ?_, ?_⟩
      all_goals first | (simp [sameR, *]; done) | ((repeat (first | exact Below.refl _ _ | assumption | (refine Below.alloc ?_ (by first | omega | (simp; done) | (simp; omega)) _) | (refine Below.setCell ?_ (by first | omega | (simp; done) | (simp; omega)) _) | (refine Below.trans ?_ (Below.mono (by assumption) (by first | omega | (simp; done) | (simp; omega)))))); done)

set_option maxHeartbeats 4000000 in
theorem sameRef_b (xk xl xh : Int) (xs : ByteArray) (xa xm xo : Bool) (xf : Option Addr) (xn xc : Nat) (yk yl yh : Int) (ys : ByteArray) (ya ym yo : Bool) (yf : Option Addr) (yn yc : Nat) (r q : Bool) (hr : Hid (right xk xl xh xs xa xm xo xn = r)) (hq : Hid (right yk yl yh ys ya ym yo yn = q)) (w : World) :
    Calls Try.prog 25 #[.agg #[.int .i64 xk, .int .i64 xl, .int .i64 xh, .string xs, .bool xa, .bool xm, .bool xo, .slice xf xn xc], .agg #[.int .i64 yk, .int .i64 yl, .int .i64 yh, .string ys, .bool ya, .bool ym, .bool yo, .slice yf yn yc]] w fun e w' => e = .returned (.bool (sameR xk xl xh xs xa xm yk yl yh ys ya ym r q)) ∧ Below w.heap.size w w' := by
  cases r
  · go_enter Try.func25, Try.ntmps25
    go_wp2_with (first | (go_at_call 20; (with_reducible refine (rightRef_c _ _ _ _ _ _ _ _ _ _ _ hr _).mono ?_); rintro e w1 ⟨rfl, hb_w1⟩; obtain ⟨hc_w1, hf_w1⟩ := bcell hb_w1; have hs_w1 := hb_w1.size; (try simp only [World.size_alloc] at hs_w1); have hk_w1_0 : w.heap.size < w1.heap.size := (by omega); have hk_w1_1 : w.heap.size + 1 < w1.heap.size := (by omega)))
    go_ret
    exact ⟨ret_bool (by simp [sameR]), by (repeat (first | exact Below.refl _ _ | assumption | (refine Below.alloc ?_ (by first | omega | (simp; done) | (simp; omega)) _) | (refine Below.setCell ?_ (by first | omega | (simp; done) | (simp; omega)) _) | (refine Below.trans ?_ (Below.mono (by assumption) (by first | omega | (simp; done) | (simp; omega))))))⟩
  · cases q
    · go_enter Try.func25, Try.ntmps25
      go_wp2_with (first | (go_at_call 20; (with_reducible refine (rightRef_c _ _ _ _ _ _ _ _ _ _ _ hr _).mono ?_); clear hr; rintro e w1 ⟨rfl, hb_w1⟩; obtain ⟨hc_w1, hf_w1⟩ := bcell hb_w1; have hs_w1 := hb_w1.size; (try simp only [World.size_alloc] at hs_w1); have hk_w1_0 : w.heap.size < w1.heap.size := (by omega); have hk_w1_1 : w.heap.size + 1 < w1.heap.size := (by omega)) | (go_at_call 20; (with_reducible refine (rightRef_c _ _ _ _ _ _ _ _ _ _ _ hq _).mono ?_); rintro e w2 ⟨rfl, hb_w2⟩; obtain ⟨hc_w2, hf_w2⟩ := bcell hb_w2; have hs_w2 := hb_w2.size; (try simp only [World.size_alloc] at hs_w2); have hk_w2_0 : w.heap.size < w2.heap.size := (by omega); have hk_w2_1 : w.heap.size + 1 < w2.heap.size := (by omega)))
      go_ret
      exact ⟨ret_bool (by simp [sameR]), by (repeat (first | exact Below.refl _ _ | assumption | (refine Below.alloc ?_ (by first | omega | (simp; done) | (simp; omega)) _) | (refine Below.setCell ?_ (by first | omega | (simp; done) | (simp; omega)) _) | (refine Below.trans ?_ (Below.mono (by assumption) (by first | omega | (simp; done) | (simp; omega))))))⟩
    · go_enter Try.func25, Try.ntmps25
      go_wp2_with (first | (go_at_call 20; (with_reducible refine (rightRef_c _ _ _ _ _ _ _ _ _ _ _ hr _).mono ?_); clear hr; rintro e w1 ⟨rfl, hb_w1⟩; obtain ⟨hc_w1, hf_w1⟩ := bcell hb_w1; have hs_w1 := hb_w1.size; (try simp only [World.size_alloc] at hs_w1); have hk_w1_0 : w.heap.size < w1.heap.size := (by omega); have hk_w1_1 : w.heap.size + 1 < w1.heap.size := (by omega)) | (go_at_call 20; (with_reducible refine (rightRef_c _ _ _ _ _ _ _ _ _ _ _ hq _).mono ?_); rintro e w2 ⟨rfl, hb_w2⟩; obtain ⟨hc_w2, hf_w2⟩ := bcell hb_w2; have hs_w2 := hb_w2.size; (try simp only [World.size_alloc] at hs_w2); have hk_w2_0 : w.heap.size < w2.heap.size := (by omega); have hk_w2_1 : w.heap.size + 1 < w2.heap.size := (by omega)))
      all_goals go_ret
      all_goals refine ⟨ret_bool ?_, ?_⟩
      all_goals first | (simp [sameR, *]; done) | ((repeat (first | exact Below.refl _ _ | assumption | (refine Below.alloc ?_ (by first | omega | (simp; done) | (simp; omega)) _) | (refine Below.setCell ?_ (by first | omega | (simp; done) | (simp; omega)) _) | (refine Below.trans ?_ (Below.mono (by assumption) (by first | omega | (simp; done) | (simp; omega)))))); done)

theorem atom_b (xk xl xh : Int) (xs : ByteArray) (xa xm xo : Bool) (xf : Option Addr) (xn xc : Nat) (r b : Bool) (hr : Hid (right xk xl xh xs xa xm xo xn = r)) (hb : Hid (one xk xl xh xa = b)) (w : World) :
    Calls Try.prog 22 #[.agg #[.int .i64 xk, .int .i64 xl, .int .i64 xh, .string xs, .bool xa, .bool xm, .bool xo, .slice xf xn xc]] w fun e w' => e = .returned (.bool (r && b)) ∧ Below w.heap.size w w' := by
  cases r
  · go_enter Try.func22, Try.ntmps22
    go_wp2_with (first | (go_at_call 21; (with_reducible refine (right_b _ _ _ _ _ _ _ _ _ _ _ hr _).mono ?_); rintro e w1 ⟨rfl, hb_w1⟩; obtain ⟨hc_w1, hf_w1⟩ := bcell hb_w1; have hs_w1 := hb_w1.size; (try simp only [World.size_alloc] at hs_w1); have hk_w1_0 : w.heap.size < w1.heap.size := (by omega)))
    go_ret
    exact ⟨rfl, by (repeat (first | exact Below.refl _ _ | assumption | (refine Below.alloc ?_ (by first | omega | (simp; done) | (simp; omega)) _) | (refine Below.setCell ?_ (by first | omega | (simp; done) | (simp; omega)) _) | (refine Below.trans ?_ (Below.mono (by assumption) (by first | omega | (simp; done) | (simp; omega))))))⟩
  · go_enter Try.func22, Try.ntmps22
    go_wp2_with (first | (go_at_call 21; (with_reducible refine (right_b _ _ _ _ _ _ _ _ _ _ _ hr _).mono ?_); rintro e w1 ⟨rfl, hb_w1⟩; obtain ⟨hc_w1, hf_w1⟩ := bcell hb_w1; have hs_w1 := hb_w1.size; (try simp only [World.size_alloc] at hs_w1); have hk_w1_0 : w.heap.size < w1.heap.size := (by omega)) | (go_at_call 62; (with_reducible refine (one_b _ _ _ _ _ _ _ _ _ _ _ hb _).mono ?_); rintro e w2 ⟨rfl, hb_w2⟩; obtain ⟨hc_w2, hf_w2⟩ := bcell hb_w2; have hs_w2 := hb_w2.size; (try simp only [World.size_alloc] at hs_w2); have hk_w2_0 : w.heap.size < w2.heap.size := (by omega)))
    go_ret
    exact ⟨by simp, by (repeat (first | exact Below.refl _ _ | assumption | (refine Below.alloc ?_ (by first | omega | (simp; done) | (simp; omega)) _) | (refine Below.setCell ?_ (by first | omega | (simp; done) | (simp; omega)) _) | (refine Below.trans ?_ (Below.mono (by assumption) (by first | omega | (simp; done) | (simp; omega))))))⟩
end Go.Proofs.Ytigdibglkejciaa.Sca
