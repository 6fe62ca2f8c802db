/-
  Below, like, Zero, Has.
-/
import Derived.Test.YtigdibglkejciaaS8
namespace Go.Proofs.Ytigdibglkejciaa.Sca
open Go.RowKit

/-- Below, as plain data. -/
def below (xk xl xh : Int) (xs : ByteArray) (xa xm : Bool) (yl yh : Int) (ys : ByteArray) (ya ym ok : Bool) : Bool :=
  ok && sameR xk (mlo xl yl) (mhi xh yh) (mtx xa xs ys) (xa && ya) (mmb xk (mlo xl yl) (mhi xh yh) (xa && ya) (xm || ym)) xk xl xh xs xa xm true true

set_option maxHeartbeats 1000000 in
theorem below_c (xk xl xh : Int) (xs : ByteArray) (xa xm xo : Bool) (xf : Option Addr) (xn xc : Nat) (yk yl yh : Int) (ys : ByteArray) (ya ym yo : Bool) (yf : Option Addr) (yn yc : Nat) (ok : Bool) (hk : Hid (mok xk xl xh xs xa xm xo xn yk yl yh ys ya ym yo yn = ok)) (w : World) :
    Calls Try.prog 37 #[.agg #[.int .i64 xk, .int .i64 xl, .int .i64 xh, .string xs, .bool xa, .bool xm, .bool xo, .slice xf xn xc], .agg #[.int .i64 yk, .int .i64 yl, .int .i64 yh, .string ys, .bool ya, .bool ym, .bool yo, .slice yf yn yc]] w fun e w' => e = .returned (.bool (below xk xl xh xs xa xm yl yh ys ya ym ok)) ∧ Below w.heap.size w w' := by
  cases ok
  · go_enter Try.func37, Try.ntmps37
    go_wp2_with ((go_at_call 35; (with_reducible refine (meet_no _ _ _ _ _ _ _ _ _ _ _ _ _ _ _ _ _ _ _ _ hk _).mono ?_); rintro e w1 ⟨rfl, hb_w1⟩; obtain ⟨hc_w1, hf_w1⟩ := bcell hb_w1; have hs_w1 := hb_w1.size; (try simp only [World.size_alloc] at hs_w1); have hk_w1_0 : w.heap.size < w1.heap.size := (by omega); have hk_w1_1 : w.heap.size + 1 < w1.heap.size := (by omega)))
    go_ret
    exact ⟨ret_bool (by simp [below]), by (repeat (first | (with_reducible exact Below.refl _ _) | ((with_reducible refine Below.alloc ?_ ?_ _); rotate_left; (focus (first | omega | (simp; done) | (simp; omega)))) | ((with_reducible refine Below.setCell ?_ ?_ _); rotate_left; (focus (first | omega | (simp; done) | (simp; omega)))) | ((with_reducible refine Below.trans ?_ (Below.mono (by assumption) ?_)); rotate_left; (focus (first | omega | (simp; done) | (simp; omega)))) | (with_reducible assumption)))⟩
  · obtain ⟨L, H, tx, ea, mb, hm⟩ : ∃ L H tx ea mb, Hid (mlo xl yl = L ∧ mhi xh yh = H ∧ mtx xa xs ys = tx ∧ (xa && ya) = ea ∧ mmb xk L H ea (xm || ym) = mb) := ⟨_, _, _, _, _, rfl, rfl, rfl, rfl, rfl⟩
    have hR : Hid (right xk L H tx ea mb false 0 = true) := by obtain ⟨rfl, rfl, rfl, rfl, rfl⟩ := hm.out; exact mok_right hk.out
    have hx : Hid (right xk xl xh xs xa xm xo xn = true) := by have h := hk.out; unfold mok at h; simp only [Bool.and_eq_true] at h; exact h.1.1.1.1
    have hB : Hid (sameR xk L H tx ea mb xk xl xh xs xa xm true true = below xk xl xh xs xa xm yl yh ys ya ym true) := by obtain ⟨rfl, rfl, rfl, rfl, rfl⟩ := hm.out; rfl
    go_enter Try.func37, Try.ntmps37
    go_wp2_with (first | (go_at_call 35; (with_reducible refine (meet_ok _ _ _ _ _ _ _ _ _ _ _ _ _ _ _ _ _ _ _ _ _ _ _ _ _ hk hm _).mono ?_); rintro e w1 ⟨rfl, hb_w1⟩; obtain ⟨hc_w1, hf_w1⟩ := bcell hb_w1; have hs_w1 := hb_w1.size; (try simp only [World.size_alloc] at hs_w1); have hk_w1_0 : w.heap.size < w1.heap.size := (by omega); have hk_w1_1 : w.heap.size + 1 < w1.heap.size := (by omega)) | (go_at_call 24; (with_reducible refine (same_b _ _ _ _ _ _ _ _ _ _ _ _ _ _ _ _ _ _ _ _ _ _ hR hx _).mono ?_); rintro e w2 ⟨rfl, hb_w2⟩; obtain ⟨hc_w2, hf_w2⟩ := bcell hb_w2; have hs_w2 := hb_w2.size; (try simp only [World.size_alloc] at hs_w2); have hk_w2_0 : w.heap.size < w2.heap.size := (by omega); have hk_w2_1 : w.heap.size + 1 < w2.heap.size := (by omega)))
    go_ret
    exact ⟨ret_bool hB.out, by (repeat (first | (with_reducible exact Below.refl _ _) | ((with_reducible refine Below.alloc ?_ ?_ _); rotate_left; (focus (first | omega | (simp; done) | (simp; omega)))) | ((with_reducible refine Below.setCell ?_ ?_ _); rotate_left; (focus (first | omega | (simp; done) | (simp; omega)))) | ((with_reducible refine Below.trans ?_ (Below.mono (by assumption) ?_)); rotate_left; (focus (first | omega | (simp; done) | (simp; omega)))) | (with_reducible assumption)))⟩
set_option maxHeartbeats 1000000 in
theorem belowR_c (xk xl xh : Int) (xs : ByteArray) (xa xm xo : Bool) (xf : Option Addr) (xn xc : Nat) (yk yl yh : Int) (ys : ByteArray) (ya ym yo : Bool) (yf : Option Addr) (yn yc : Nat) (ok : Bool) (hk : Hid (mok xk xl xh xs xa xm xo xn yk yl yh ys ya ym yo yn = ok)) (w : World) :
    Calls Try.prog 38 #[.agg #[.int .i64 xk, .int .i64 xl, .int .i64 xh, .string xs, .bool xa, .bool xm, .bool xo, .slice xf xn xc], .agg #[.int .i64 yk, .int .i64 yl, .int .i64 yh, .string ys, .bool ya, .bool ym, .bool yo, .slice yf yn yc]] w fun e w' => e = .returned (.bool (below xk xl xh xs xa xm yl yh ys ya ym ok)) ∧ Below w.heap.size w w' := by
  cases ok
  · go_enter Try.func38, Try.ntmps38
    go_wp2_with ((go_at_call 36; (with_reducible refine (meetR_no _ _ _ _ _ _ _ _ _ _ _ _ _ _ _ _ _ _ _ _ hk _).mono ?_); rintro e w1 ⟨rfl, hb_w1⟩; obtain ⟨hc_w1, hf_w1⟩ := bcell hb_w1; have hs_w1 := hb_w1.size; (try simp only [World.size_alloc] at hs_w1); have hk_w1_0 : w.heap.size < w1.heap.size := (by omega); have hk_w1_1 : w.heap.size + 1 < w1.heap.size := (by omega)))
    go_ret
    exact ⟨ret_bool (by simp [below]), by (repeat (first | (with_reducible exact Below.refl _ _) | ((with_reducible refine Below.alloc ?_ ?_ _); rotate_left; (focus (first | omega | (simp; done) | (simp; omega)))) | ((with_reducible refine Below.setCell ?_ ?_ _); rotate_left; (focus (first | omega | (simp; done) | (simp; omega)))) | ((with_reducible refine Below.trans ?_ (Below.mono (by assumption) ?_)); rotate_left; (focus (first | omega | (simp; done) | (simp; omega)))) | (with_reducible assumption)))⟩
  · obtain ⟨L, H, tx, ea, mb, hm⟩ : ∃ L H tx ea mb, Hid (mlo xl yl = L ∧ mhi xh yh = H ∧ mtx xa xs ys = tx ∧ (xa && ya) = ea ∧ mmb xk L H ea (xm || ym) = mb) := ⟨_, _, _, _, _, rfl, rfl, rfl, rfl, rfl⟩
    have hR : Hid (right xk L H tx ea mb false 0 = true) := by obtain ⟨rfl, rfl, rfl, rfl, rfl⟩ := hm.out; exact mok_right hk.out
    have hx : Hid (right xk xl xh xs xa xm xo xn = true) := by have h := hk.out; unfold mok at h; simp only [Bool.and_eq_true] at h; exact h.1.1.1.1
    have hB : Hid (sameR xk L H tx ea mb xk xl xh xs xa xm true true = below xk xl xh xs xa xm yl yh ys ya ym true) := by obtain ⟨rfl, rfl, rfl, rfl, rfl⟩ := hm.out; rfl
    go_enter Try.func38, Try.ntmps38
    go_wp2_with (first | (go_at_call 36; (with_reducible refine (meetR_ok _ _ _ _ _ _ _ _ _ _ _ _ _ _ _ _ _ _ _ _ _ _ _ _ _ hk hm _).mono ?_); rintro e w1 ⟨rfl, hb_w1⟩; obtain ⟨hc_w1, hf_w1⟩ := bcell hb_w1; have hs_w1 := hb_w1.size; (try simp only [World.size_alloc] at hs_w1); have hk_w1_0 : w.heap.size < w1.heap.size := (by omega); have hk_w1_1 : w.heap.size + 1 < w1.heap.size := (by omega)) | (go_at_call 25; (with_reducible refine (sameRef_b _ _ _ _ _ _ _ _ _ _ _ _ _ _ _ _ _ _ _ _ _ _ hR hx _).mono ?_); rintro e w2 ⟨rfl, hb_w2⟩; obtain ⟨hc_w2, hf_w2⟩ := bcell hb_w2; have hs_w2 := hb_w2.size; (try simp only [World.size_alloc] at hs_w2); have hk_w2_0 : w.heap.size < w2.heap.size := (by omega); have hk_w2_1 : w.heap.size + 1 < w2.heap.size := (by omega)))
    go_ret
    exact ⟨ret_bool hB.out, by (repeat (first | (with_reducible exact Below.refl _ _) | ((with_reducible refine Below.alloc ?_ ?_ _); rotate_left; (focus (first | omega | (simp; done) | (simp; omega)))) | ((with_reducible refine Below.setCell ?_ ?_ _); rotate_left; (focus (first | omega | (simp; done) | (simp; omega)))) | ((with_reducible refine Below.trans ?_ (Below.mono (by assumption) ?_)); rotate_left; (focus (first | omega | (simp; done) | (simp; omega)))) | (with_reducible assumption)))⟩

theorem zero_yes (w : World) :
    Calls Try.prog 64 #[.agg #[.int .i64 0, .int .i64 0, .int .i64 0, .string ⟨#[]⟩, .bool false, .bool false, .bool false, .slice none 0 0]] w fun e w' => e = .returned (.bool true) ∧ Below w.heap.size w w' := by
  go_enter Try.func64, Try.ntmps64
  go_wp2
  go_ret
  exact ⟨rfl, by (repeat (first | (with_reducible exact Below.refl _ _) | ((with_reducible refine Below.alloc ?_ ?_ _); rotate_left; (focus (first | omega | (simp; done) | (simp; omega)))) | ((with_reducible refine Below.setCell ?_ ?_ _); rotate_left; (focus (first | omega | (simp; done) | (simp; omega)))) | ((with_reducible refine Below.trans ?_ (Below.mono (by assumption) ?_)); rotate_left; (focus (first | omega | (simp; done) | (simp; omega)))) | (with_reducible assumption)))⟩
theorem like_no (yk yl yh : Int) (ys : ByteArray) (ya ym yo : Bool) (yf : Option Addr) (yn yc : Nat) (w : World) :
    Calls Try.prog 29 #[.agg #[.int .i64 0, .int .i64 0, .int .i64 0, .string ⟨#[]⟩, .bool false, .bool false, .bool false, .slice none 0 0], .bool false, .agg #[.int .i64 yk, .int .i64 yl, .int .i64 yh, .string ys, .bool ya, .bool ym, .bool yo, .slice yf yn yc], .bool false] w fun e w' => e = .returned (.bool true) ∧ Below w.heap.size w w' := by
  go_enter Try.func29, Try.ntmps29
  go_wp2_with ((go_at_call 64; (with_reducible refine (zero_yes _).mono ?_); rintro e w1 ⟨rfl, hb_w1⟩; obtain ⟨hc_w1, hf_w1⟩ := bcell hb_w1; have hs_w1 := hb_w1.size; (try simp only [World.size_alloc] at hs_w1); have hk_w1_0 : w.heap.size < w1.heap.size := (by omega); have hk_w1_1 : w.heap.size + 1 < w1.heap.size := (by omega)))
  go_ret
  exact ⟨rfl, by (repeat (first | (with_reducible exact Below.refl _ _) | ((with_reducible refine Below.alloc ?_ ?_ _); rotate_left; (focus (first | omega | (simp; done) | (simp; omega)))) | ((with_reducible refine Below.setCell ?_ ?_ _); rotate_left; (focus (first | omega | (simp; done) | (simp; omega)))) | ((with_reducible refine Below.trans ?_ (Below.mono (by assumption) ?_)); rotate_left; (focus (first | omega | (simp; done) | (simp; omega)))) | (with_reducible assumption)))⟩
theorem like_yes (xk xl xh : Int) (xs : ByteArray) (xa xm xo : Bool) (xf : Option Addr) (xn xc : Nat) (yk yl yh : Int) (ys : ByteArray) (ya ym yo : Bool) (yf : Option Addr) (yn yc : Nat) (r q b : Bool) (hr : Hid (right xk xl xh xs xa xm xo xn = r)) (hq : Hid (right yk yl yh ys ya ym yo yn = q)) (hb : Hid (sameR xk xl xh xs xa xm yk yl yh ys ya ym r q = b)) (w : World) :
    Calls Try.prog 29 #[.agg #[.int .i64 xk, .int .i64 xl, .int .i64 xh, .string xs, .bool xa, .bool xm, .bool xo, .slice xf xn xc], .bool true, .agg #[.int .i64 yk, .int .i64 yl, .int .i64 yh, .string ys, .bool ya, .bool ym, .bool yo, .slice yf yn yc], .bool true] w fun e w' => e = .returned (.bool b) ∧ Below w.heap.size w w' := by
  have hB := hb.out
  subst hB
  clear hb
  go_enter Try.func29, Try.ntmps29
  go_wp2_with ((go_at_call 25; (with_reducible refine (sameRef_b _ _ _ _ _ _ _ _ _ _ _ _ _ _ _ _ _ _ _ _ _ _ hr hq _).mono ?_); rintro e w1 ⟨rfl, hb_w1⟩; obtain ⟨hc_w1, hf_w1⟩ := bcell hb_w1; have hs_w1 := hb_w1.size; (try simp only [World.size_alloc] at hs_w1); have hk_w1_0 : w.heap.size < w1.heap.size := (by omega); have hk_w1_1 : w.heap.size + 1 < w1.heap.size := (by omega)))
  go_ret
  exact ⟨rfl, by (repeat (first | (with_reducible exact Below.refl _ _) | ((with_reducible refine Below.alloc ?_ ?_ _); rotate_left; (focus (first | omega | (simp; done) | (simp; omega)))) | ((with_reducible refine Below.setCell ?_ ?_ _); rotate_left; (focus (first | omega | (simp; done) | (simp; omega)))) | ((with_reducible refine Below.trans ?_ (Below.mono (by assumption) ?_)); rotate_left; (focus (first | omega | (simp; done) | (simp; omega)))) | (with_reducible assumption)))⟩
/-- Is an atom in a scalar? -/
def has (xk xl xh : Int) (xs : ByteArray) (xa : Bool) (yk yl : Int) (ys : ByteArray) : Bool :=
  xk == yk && (if xk == 3 then xa || xs.toList == ys.toList else decide (xl ≤ yl) && decide (yl ≤ xh))
theorem has_b (xk xl xh : Int) (xs : ByteArray) (xa xm xo : Bool) (xf : Option Addr) (xn xc : Nat) (yk yl yh : Int) (ys : ByteArray) (ya ym yo : Bool) (yf : Option Addr) (yn yc : Nat) (w : World) :
    Calls Try.prog 39 #[.agg #[.int .i64 xk, .int .i64 xl, .int .i64 xh, .string xs, .bool xa, .bool xm, .bool xo, .slice xf xn xc], .agg #[.int .i64 yk, .int .i64 yl, .int .i64 yh, .string ys, .bool ya, .bool ym, .bool yo, .slice yf yn yc]] w fun e w' => e = .returned (.bool (has xk xl xh xs xa yk yl ys)) ∧ Below w.heap.size w w' := by
  cases hk : (xk != yk)
  · have hk1 : (xk == yk) = true := by simpa using hk
    have HK := Lib.hid hk1
    clear hk1
    cases h3 : (xk == 3)
    · go_enter Try.func39, Try.ntmps39
      go_wp2
      all_goals go_ret
      all_goals refine ⟨ret_bool (by rw [has, HK.out, h3]; simp; try omega), by (repeat (first | (with_reducible exact Below.refl _ _) | ((with_reducible refine Below.alloc ?_ ?_ _); rotate_left; (focus (first | omega | (simp; done) | (simp; omega)))) | ((with_reducible refine Below.setCell ?_ ?_ _); rotate_left; (focus (first | omega | (simp; done) | (simp; omega)))) | ((with_reducible refine Below.trans ?_ (Below.mono (by assumption) ?_)); rotate_left; (focus (first | omega | (simp; done) | (simp; omega)))) | (with_reducible assumption)))⟩
    · cases xa
      · go_enter Try.func39, Try.ntmps39
        go_wp2
        all_goals go_ret
        all_goals refine ⟨ret_bool (by rw [has, HK.out, h3]; simp), by (repeat (first | (with_reducible exact Below.refl _ _) | ((with_reducible refine Below.alloc ?_ ?_ _); rotate_left; (focus (first | omega | (simp; done) | (simp; omega)))) | ((with_reducible refine Below.setCell ?_ ?_ _); rotate_left; (focus (first | omega | (simp; done) | (simp; omega)))) | ((with_reducible refine Below.trans ?_ (Below.mono (by assumption) ?_)); rotate_left; (focus (first | omega | (simp; done) | (simp; omega)))) | (with_reducible assumption)))⟩
      · go_enter Try.func39, Try.ntmps39
        go_wp2
        all_goals go_ret
        all_goals refine ⟨ret_bool (by rw [has, HK.out, h3]; simp), by (repeat (first | (with_reducible exact Below.refl _ _) | ((with_reducible refine Below.alloc ?_ ?_ _); rotate_left; (focus (first | omega | (simp; done) | (simp; omega)))) | ((with_reducible refine Below.setCell ?_ ?_ _); rotate_left; (focus (first | omega | (simp; done) | (simp; omega)))) | ((with_reducible refine Below.trans ?_ (Below.mono (by assumption) ?_)); rotate_left; (focus (first | omega | (simp; done) | (simp; omega)))) | (with_reducible assumption)))⟩
  · have hk1 : (xk == yk) = false := by simpa using hk
    have HK := Lib.hid hk1
    clear hk1
    go_enter Try.func39, Try.ntmps39
    go_wp2
    go_ret
    exact ⟨ret_bool (by rw [has, HK.out]; simp), by (repeat (first | (with_reducible exact Below.refl _ _) | ((with_reducible refine Below.alloc ?_ ?_ _); rotate_left; (focus (first | omega | (simp; done) | (simp; omega)))) | ((with_reducible refine Below.setCell ?_ ?_ _); rotate_left; (focus (first | omega | (simp; done) | (simp; omega)))) | ((with_reducible refine Below.trans ?_ (Below.mono (by assumption) ?_)); rotate_left; (focus (first | omega | (simp; done) | (simp; omega)))) | (with_reducible assumption)))⟩
theorem has_c (xk xl xh : Int) (xs : ByteArray) (xa xm xo : Bool) (xf : Option Addr) (xn xc : Nat) (yk yl yh : Int) (ys : ByteArray) (ya ym yo : Bool) (yf : Option Addr) (yn yc : Nat) (b : Bool) (hb : Hid (has xk xl xh xs xa yk yl ys = b)) (w : World) :
    Calls Try.prog 39 #[.agg #[.int .i64 xk, .int .i64 xl, .int .i64 xh, .string xs, .bool xa, .bool xm, .bool xo, .slice xf xn xc], .agg #[.int .i64 yk, .int .i64 yl, .int .i64 yh, .string ys, .bool ya, .bool ym, .bool yo, .slice yf yn yc]] w fun e w' => e = .returned (.bool b) ∧ Below w.heap.size w w' := by
  have := hb.out; subst this; exact has_b xk xl xh xs xa xm xo xf xn xc yk yl yh ys ya ym yo yf yn yc w
end Go.Proofs.Ytigdibglkejciaa.Sca
