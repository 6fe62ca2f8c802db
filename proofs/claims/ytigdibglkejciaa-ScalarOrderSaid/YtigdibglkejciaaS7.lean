/-
  Meets as plain data: when there is one, what it is, and that it is right. No program here but for the words of S1 to S3.
-/
import Derived.Test.YtigdibglkejciaaS3
namespace Go.Proofs.Ytigdibglkejciaa.Sca
open Go.RowKit

def mlo (a b : Int) : Int := if a < b then b else a
def mhi (a b : Int) : Int := if b < a then b else a
def mtx (a : Bool) (s t : ByteArray) : ByteArray := if a then t else s
/-- Is something in both? -/
def mok (xk xl xh : Int) (xs : ByteArray) (xa xm xo : Bool) (xn : Nat) (yk yl yh : Int) (ys : ByteArray) (ya ym yo : Bool) (yn : Nat) : Bool :=
  right xk xl xh xs xa xm xo xn && right yk yl yh ys ya ym yo yn && xk == yk && decide (mlo xl yl ≤ mhi xh yh) && (xa || ya || xs.toList == ys.toList)
def mmb (k l h : Int) (a m : Bool) : Bool := m && !one k l h a

theorem right_not3 {k l h : Int} {s : ByteArray} {a m o : Bool} {n : Nat} (hr : right k l h s a m o n = true) (hk : (k == 3) = false) : a = false ∧ s.toList = [] := by
  unfold right at hr
  rw [if_neg (by simp [hk])] at hr
  grind
theorem right_3 {k l h : Int} {s : ByteArray} {a m o : Bool} {n : Nat} (hr : right k l h s a m o n = true) (hk : (k == 3) = true) : l = 0 ∧ h = 0 := by
  unfold right at hr
  rw [if_pos hk] at hr
  grind
theorem right_bare {k l h : Int} {s : ByteArray} {a m o : Bool} {n : Nat} (hr : right k l h s a m o n = true) : o = false ∧ n = 0 := by
  unfold right bare at hr
  grind
theorem nil_eq {s t : ByteArray} (h : s.toList = []) (g : t.toList = []) : s = t := by
  rw [toList_nil_iff_emptyBytes] at h g; rw [h, g]
theorem list_eq {s t : ByteArray} (h : s.toList = t.toList) : s = t := by
  rw [ByteArray.toList_eq, ByteArray.toList_eq] at h
  cases s; cases t
  simp at h
  simp [h]

/-- What is met is right. -/
theorem mok_right {xk xl xh : Int} {xs : ByteArray} {xa xm xo : Bool} {xn : Nat} {yk yl yh : Int} {ys : ByteArray} {ya ym yo : Bool} {yn : Nat}
    (h : mok xk xl xh xs xa xm xo xn yk yl yh ys ya ym yo yn = true) :
    right xk (mlo xl yl) (mhi xh yh) (mtx xa xs ys) (xa && ya) (mmb xk (mlo xl yl) (mhi xh yh) (xa && ya) (xm || ym)) false 0 = true := by
  unfold mok at h
  simp only [Bool.and_eq_true] at h
  obtain ⟨⟨⟨⟨h1, h2⟩, h3⟩, h4⟩, h5⟩ := h
  have h3 : xk = yk := by simpa using h3
  subst h3
  have h4 : mlo xl yl ≤ mhi xh yh := by simpa using h4
  unfold right bare mmb at *
  generalize one xk (mlo xl yl) (mhi xh yh) (xa && ya) = b
  unfold mlo mhi mtx at *
  grind
end Go.Proofs.Ytigdibglkejciaa.Sca
