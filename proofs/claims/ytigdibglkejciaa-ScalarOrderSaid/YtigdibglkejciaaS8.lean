/-
  Meet, joined: when something is in both, and what (the program's and the reference's).
-/
import Derived.Test.YtigdibglkejciaaS5
import Derived.Test.YtigdibglkejciaaS6
import Derived.Test.YtigdibglkejciaaS7
namespace Go.Proofs.Ytigdibglkejciaa.Sca
open Go.RowKit

theorem ltr_eq (a b : Int) : (if a < b then b else a) = mlo a b := rfl
theorem tr_eq (a b : Int) : (if b < a then b else a) = mhi a b := rfl

theorem meet_no (xk xl xh : Int) (xs : ByteArray) (xa xm xo : Bool) (xf : Option Addr) (xn xc : Nat) (yk yl yh : Int) (ys : ByteArray) (ya ym yo : Bool) (yf : Option Addr) (yn yc : Nat) (hk : Hid (mok xk xl xh xs xa xm xo xn yk yl yh ys ya ym yo yn = false)) (w : World) :
    Calls Try.prog 35 #[.agg #[.int .i64 xk, .int .i64 xl, .int .i64 xh, .string xs, .bool xa, .bool xm, .bool xo, .slice xf xn xc], .agg #[.int .i64 yk, .int .i64 yl, .int .i64 yh, .string ys, .bool ya, .bool ym, .bool yo, .slice yf yn yc]] w fun e w' => e = .returned (.tuple #[.agg #[.int .i64 0, .int .i64 0, .int .i64 0, .string ⟨#[]⟩, .bool false, .bool false, .bool false, .slice none 0 0], .bool false]) ∧ Below w.heap.size w w' := by
  have h := hk.out
  unfold mok at h
  cases hr : right xk xl xh xs xa xm xo xn
  · exact meet_nor xk xl xh xs xa xm xo xf xn xc yk yl yh ys ya ym yo yf yn yc false _ hr (rfl : right yk yl yh ys ya ym yo yn = _) rfl w
  cases hq : right yk yl yh ys ya ym yo yn
  · exact meet_nor xk xl xh xs xa xm xo xf xn xc yk yl yh ys ya ym yo yf yn yc true false hr hq rfl w
  cases hk1 : (xk != yk)
  · have hk2 : (xk == yk) = true := by simpa using hk1
    rw [hr, hq, hk2] at h
    by_cases hl : mlo xl yl ≤ mhi xh yh
    · have hl2 : decide (mlo xl yl ≤ mhi xh yh) = true := by simpa using hl
      rw [hl2] at h
      cases xa
      · cases ya
        · exact meet_clash xk xl xh xs true xm xo xf xn xc yk yl yh ys true ym yo yf yn yc _ _ (ltr_eq _ _) (tr_eq _ _) hr hq hk1 hl (by simpa using h) w
        · simp at h
      · simp at h
    · exact meet_out xk xl xh xs xa xm xo xf xn xc yk yl yh ys ya ym yo yf yn yc _ _ (ltr_eq _ _) (tr_eq _ _) hr hq hk1 (by omega) w
  · exact meet_kind xk xl xh xs xa xm xo xf xn xc yk yl yh ys ya ym yo yf yn yc hr hq hk1 w

theorem meet_ok (xk xl xh : Int) (xs : ByteArray) (xa xm xo : Bool) (xf : Option Addr) (xn xc : Nat) (yk yl yh : Int) (ys : ByteArray) (ya ym yo : Bool) (yf : Option Addr) (yn yc : Nat) (L H : Int) (tx : ByteArray) (ea mb : Bool) (hk : Hid (mok xk xl xh xs xa xm xo xn yk yl yh ys ya ym yo yn = true)) (hm : Hid (mlo xl yl = L ∧ mhi xh yh = H ∧ mtx xa xs ys = tx ∧ (xa && ya) = ea ∧ mmb xk L H ea (xm || ym) = mb)) (w : World) :
    Calls Try.prog 35 #[.agg #[.int .i64 xk, .int .i64 xl, .int .i64 xh, .string xs, .bool xa, .bool xm, .bool xo, .slice xf xn xc], .agg #[.int .i64 yk, .int .i64 yl, .int .i64 yh, .string ys, .bool ya, .bool ym, .bool yo, .slice yf yn yc]] w fun e w' => e = .returned (.tuple #[.agg #[.int .i64 xk, .int .i64 L, .int .i64 H, .string tx, .bool ea, .bool mb, .bool false, .slice none 0 0], .bool true]) ∧ Below w.heap.size w w' := by
  have h := hk.out
  obtain ⟨rfl, rfl, rfl, rfl, rfl⟩ := hm.out
  unfold mok at h
  simp only [Bool.and_eq_true] at h
  obtain ⟨⟨⟨⟨hr, hq⟩, h3⟩, h4⟩, h5⟩ := h
  have hk1 : (xk != yk) = false := by simpa using h3
  have hl : mlo xl yl ≤ mhi xh yh := by simpa using h4
  unfold mmb
  cases xa
  · cases ya
    · exact meet_eq xk xl xh xs xm xo xf xn xc yk yl yh ys ym yo yf yn yc _ _ _ rfl (ltr_eq _ _) (tr_eq _ _) hr hq hk1 hl (by simpa using h5) w
    · exact meet_left xk xl xh xs xm xo xf xn xc yk yl yh ys ym yo yf yn yc _ _ _ rfl (ltr_eq _ _) (tr_eq _ _) hr hq hk1 hl w
  · exact meet_any xk xl xh xs xm xo xf xn xc yk yl yh ys ya ym yo yf yn yc _ _ _ rfl (ltr_eq _ _) (tr_eq _ _) hr hq hk1 hl w

theorem meetR_no (xk xl xh : Int) (xs : ByteArray) (xa xm xo : Bool) (xf : Option Addr) (xn xc : Nat) (yk yl yh : Int) (ys : ByteArray) (ya ym yo : Bool) (yf : Option Addr) (yn yc : Nat) (hk : Hid (mok xk xl xh xs xa xm xo xn yk yl yh ys ya ym yo yn = false)) (w : World) :
    Calls Try.prog 36 #[.agg #[.int .i64 xk, .int .i64 xl, .int .i64 xh, .string xs, .bool xa, .bool xm, .bool xo, .slice xf xn xc], .agg #[.int .i64 yk, .int .i64 yl, .int .i64 yh, .string ys, .bool ya, .bool ym, .bool yo, .slice yf yn yc]] w fun e w' => e = .returned (.tuple #[.agg #[.int .i64 0, .int .i64 0, .int .i64 0, .string ⟨#[]⟩, .bool false, .bool false, .bool false, .slice none 0 0], .bool false]) ∧ Below w.heap.size w w' := by
  have h := hk.out
  unfold mok at h
  cases hr : right xk xl xh xs xa xm xo xn
  · exact meetR_nor xk xl xh xs xa xm xo xf xn xc yk yl yh ys ya ym yo yf yn yc false _ hr (rfl : right yk yl yh ys ya ym yo yn = _) rfl w
  cases hq : right yk yl yh ys ya ym yo yn
  · exact meetR_nor xk xl xh xs xa xm xo xf xn xc yk yl yh ys ya ym yo yf yn yc true false hr hq rfl w
  cases hk1 : (xk != yk)
  · have hk2 : (xk == yk) = true := by simpa using hk1
    have hk3 : xk = yk := by simpa using hk1
    rw [hr, hq, hk2] at h
    cases h3 : (xk == 3)
    · by_cases hl : mlo xl yl ≤ mhi xh yh
      · have hl2 : decide (mlo xl yl ≤ mhi xh yh) = true := by simpa using hl
        rw [hl2] at h
        obtain ⟨rfl, hx⟩ := right_not3 hr h3
        obtain ⟨rfl, hy⟩ := right_not3 hq (hk3 ▸ h3)
        rw [hx, hy] at h
        simp at h
      · exact meetR_plain_out xk xl xh xs xa xm xo xf xn xc yk yl yh ys ya ym yo yf yn yc _ _ (ltr_eq _ _) (tr_eq _ _) hr hq hk1 (by omega) h3 w
    · obtain ⟨rfl, rfl⟩ := right_3 hr h3
      obtain ⟨rfl, rfl⟩ := right_3 hq (hk3 ▸ h3)
      have hl2 : decide (mlo 0 0 ≤ mhi 0 0) = true := by decide
      rw [hl2] at h
      cases xa
      · cases ya
        · exact meetR_clash xk 0 0 xs xm xo xf xn xc yk 0 0 ys ym yo yf yn yc hr hq hk1 h3 (by simpa using h) w
        · simp at h
      · simp at h
  · exact meetR_kind xk xl xh xs xa xm xo xf xn xc yk yl yh ys ya ym yo yf yn yc hr hq hk1 w

theorem meetR_ok (xk xl xh : Int) (xs : ByteArray) (xa xm xo : Bool) (xf : Option Addr) (xn xc : Nat) (yk yl yh : Int) (ys : ByteArray) (ya ym yo : Bool) (yf : Option Addr) (yn yc : Nat) (L H : Int) (tx : ByteArray) (ea mb : Bool) (hk : Hid (mok xk xl xh xs xa xm xo xn yk yl yh ys ya ym yo yn = true)) (hm : Hid (mlo xl yl = L ∧ mhi xh yh = H ∧ mtx xa xs ys = tx ∧ (xa && ya) = ea ∧ mmb xk L H ea (xm || ym) = mb)) (w : World) :
    Calls Try.prog 36 #[.agg #[.int .i64 xk, .int .i64 xl, .int .i64 xh, .string xs, .bool xa, .bool xm, .bool xo, .slice xf xn xc], .agg #[.int .i64 yk, .int .i64 yl, .int .i64 yh, .string ys, .bool ya, .bool ym, .bool yo, .slice yf yn yc]] w fun e w' => e = .returned (.tuple #[.agg #[.int .i64 xk, .int .i64 L, .int .i64 H, .string tx, .bool ea, .bool mb, .bool false, .slice xf 0 xc], .bool true]) ∧ Below w.heap.size w w' := by
  have h := hk.out
  obtain ⟨rfl, rfl, rfl, rfl, rfl⟩ := hm.out
  unfold mok at h
  simp only [Bool.and_eq_true] at h
  obtain ⟨⟨⟨⟨hr, hq⟩, h3⟩, h4⟩, h5⟩ := h
  have hk1 : (xk != yk) = false := by simpa using h3
  have hk3 : xk = yk := by simpa using h3
  have hl : mlo xl yl ≤ mhi xh yh := by simpa using h4
  obtain ⟨rfl, rfl⟩ := right_bare hr
  unfold mmb
  cases h3 : (xk == 3)
  · obtain ⟨rfl, hx⟩ := right_not3 hr h3
    obtain ⟨rfl, hy⟩ := right_not3 hq (hk3 ▸ h3)
    exact meetR_plain_yes xk xl xh xs false xm false xf 0 xc yk yl yh ys false ym yo yf yn yc _ _ _ rfl (ltr_eq _ _) (tr_eq _ _) hr hq hk1 hl h3 w
  · cases xa
    · cases ya
      · exact meetR_eq xk xl xh xs xm false xf 0 xc yk yl yh ys ym yo yf yn yc _ _ _ rfl (ltr_eq _ _) (tr_eq _ _) hr hq hk1 hl h3 (by simpa using h5) w
      · exact meetR_left xk xl xh xs xm false xf 0 xc yk yl yh ys ym yo yf yn yc _ _ _ rfl (ltr_eq _ _) (tr_eq _ _) hr hq hk1 hl h3 w
    · exact meetR_any xk xl xh xs xm false xf 0 xc yk yl yh ys ya ym yo yf yn yc _ _ _ rfl (ltr_eq _ _) (tr_eq _ _) hr hq hk1 hl h3 w
end Go.Proofs.Ytigdibglkejciaa.Sca
