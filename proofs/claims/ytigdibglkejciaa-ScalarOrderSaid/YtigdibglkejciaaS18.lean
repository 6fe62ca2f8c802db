/-
  The plain facts that ScalarOrder's walk wants of its six meets.
-/
import Derived.Test.YtigdibglkejciaaS16
namespace Go.Proofs.Ytigdibglkejciaa.Sca
open Go.RowKit

/-- u is the meet of x and y, or zero (ok: is there one?). -/
def Met (ok : Bool) (xk xl xh : Int) (xs : ByteArray) (xa xm : Bool) (yl yh : Int) (ys : ByteArray) (ya ym : Bool) (uk ul uh : Int) (us : ByteArray) (ua um : Bool) : Prop :=
  selI ok xk = uk ∧ selI ok (mlo xl yl) = ul ∧ selI ok (mhi xh yh) = uh ∧ selS ok (mtx xa xs ys) = us ∧ (ok && (xa && ya)) = ua ∧ (ok && mmb xk (mlo xl yl) (mhi xh yh) (xa && ya) (xm || ym)) = um

section
variable {xk xl xh : Int} {xs : ByteArray} {xa xm : Bool} {yk yl yh : Int} {ys : ByteArray} {ya ym : Bool} {zk zl zh : Int} {zs : ByteArray} {za zm : Bool}
variable {uk ul uh : Int} {us : ByteArray} {ua um : Bool} {vk vl vh : Int} {vs : ByteArray} {va vm : Bool} {qk ql qh : Int} {qs : ByteArray} {qa qm : Bool} {pk pl ph : Int} {ps : ByteArray} {pa pm : Bool} {rk rl rh : Int} {rs : ByteArray} {ra rm : Bool}

theorem met_yes (h : Met true xk xl xh xs xa xm yl yh ys ya ym uk ul uh us ua um) :
    uk = xk ∧ ul = mlo xl yl ∧ uh = mhi xh yh ∧ us = mtx xa xs ys ∧ ua = (xa && ya) ∧ um = mmb xk (mlo xl yl) (mhi xh yh) (xa && ya) (xm || ym) := by
  obtain ⟨rfl, rfl, rfl, rfl, rfl, rfl⟩ := h
  exact ⟨rfl, rfl, rfl, rfl, by simp, by simp⟩
theorem met_no (h : Met false xk xl xh xs xa xm yl yh ys ya ym uk ul uh us ua um) :
    uk = 0 ∧ ul = 0 ∧ uh = 0 ∧ us = ⟨#[]⟩ ∧ ua = false ∧ um = false := by
  obtain ⟨rfl, rfl, rfl, rfl, rfl, rfl⟩ := h
  exact ⟨rfl, rfl, rfl, rfl, rfl, rfl⟩
theorem core_nil {k l h : Int} {s : ByteArray} {a : Bool} (c : core k l h s a) : a = true → s.toList = [] := by
  unfold core at c; grind

theorem fact_like (ok : Bool) (hx : right xk xl xh xs xa xm false 0 = true) (hy : right yk yl yh ys ya ym false 0 = true)
    (h1 : mok xk xl xh xs xa xm false 0 yk yl yh ys ya ym false 0 = ok) (hu : Met ok xk xl xh xs xa xm yl yh ys ya ym uk ul uh us ua um) (hv : Met ok yk yl yh ys ya ym xl xh xs xa xm vk vl vh vs va vm) :
    (ok = true → right uk ul uh us ua um false 0 = true ∧ right vk vl vh vs va vm false 0 = true ∧ sameR uk ul uh us ua um vk vl vh vs va vm true true = true) ∧
      (ok = false → uk = 0 ∧ ul = 0 ∧ uh = 0 ∧ us = ⟨#[]⟩ ∧ ua = false ∧ um = false) := by
  constructor
  · rintro rfl
    obtain ⟨rfl, rfl, rfl, rfl, rfl, rfl⟩ := met_yes hu
    obtain ⟨rfl, rfl, rfl, rfl, rfl, rfl⟩ := met_yes hv
    obtain ⟨rfl, n, t⟩ := (mok_iff hx hy).1 h1
    exact ⟨mok_right h1, mok_right (mok_comm.trans h1), same_comm _ _ _ _ _ _ _ _ _ _ _ t (core_nil (right_core hx)) (core_nil (right_core hy))⟩
  · rintro rfl
    exact met_no hu

theorem fact_all (ok okp okq okr : Bool) (hx : right xk xl xh xs xa xm false 0 = true) (hy : right yk yl yh ys ya ym false 0 = true) (hz : right zk zl zh zs za zm false 0 = true)
    (h1 : mok xk xl xh xs xa xm false 0 yk yl yh ys ya ym false 0 = ok) (hu : Met ok xk xl xh xs xa xm yl yh ys ya ym uk ul uh us ua um)
    (hp : mok uk ul uh us ua um false 0 zk zl zh zs za zm false 0 = okp) (hP : Met okp uk ul uh us ua um zl zh zs za zm pk pl ph ps pa pm)
    (hq : mok yk yl yh ys ya ym false 0 zk zl zh zs za zm false 0 = okq) (hQ : Met okq yk yl yh ys ya ym zl zh zs za zm qk ql qh qs qa qm)
    (hr : mok xk xl xh xs xa xm false 0 qk ql qh qs qa qm false 0 = okr) (hR : Met okr xk xl xh xs xa xm ql qh qs qa qm rk rl rh rs ra rm) :
    (ok && okp) = (okq && okr) ∧ ((ok && okp) = true → right pk pl ph ps pa pm false 0 = true ∧ right rk rl rh rs ra rm false 0 = true ∧ sameR pk pl ph ps pa pm rk rl rh rs ra rm true true = true) := by
  have A := mok_assoc hx hy hz (mmb xk (mlo xl yl) (mhi xh yh) (xa && ya) (xm || ym)) (mmb yk (mlo yl zl) (mhi yh zh) (ya && za) (ym || zm)) mok_right mok_right
  have e : (ok && okp) = true ↔ (okq && okr) = true := by
    constructor
    · intro h
      obtain ⟨rfl, rfl⟩ : ok = true ∧ okp = true := by simpa using h
      obtain ⟨rfl, rfl, rfl, rfl, rfl, rfl⟩ := met_yes hu
      obtain ⟨b1, b2⟩ := A.1 ⟨h1, hp⟩
      have : okq = true := hq.symm.trans b1
      subst this
      obtain ⟨rfl, rfl, rfl, rfl, rfl, rfl⟩ := met_yes hQ
      have : okr = true := hr.symm.trans b2
      subst this
      rfl
    · intro h
      obtain ⟨rfl, rfl⟩ : okq = true ∧ okr = true := by simpa using h
      obtain ⟨rfl, rfl, rfl, rfl, rfl, rfl⟩ := met_yes hQ
      obtain ⟨b1, b2⟩ := A.2 ⟨hq, hr⟩
      have : ok = true := h1.symm.trans b1
      subst this
      obtain ⟨rfl, rfl, rfl, rfl, rfl, rfl⟩ := met_yes hu
      have : okp = true := hp.symm.trans b2
      subst this
      rfl
  refine ⟨Bool.eq_iff_iff.2 e, fun h => ?_⟩
  have h' := e.1 h
  obtain ⟨rfl, rfl⟩ : ok = true ∧ okp = true := by simpa using h
  obtain ⟨rfl, rfl⟩ : okq = true ∧ okr = true := by simpa using h'
  obtain ⟨rfl, rfl, rfl, rfl, rfl, rfl⟩ := met_yes hu
  obtain ⟨rfl, rfl, rfl, rfl, rfl, rfl⟩ := met_yes hQ
  obtain ⟨rfl, rfl, rfl, rfl, rfl, rfl⟩ := met_yes hP
  obtain ⟨rfl, rfl, rfl, rfl, rfl, rfl⟩ := met_yes hR
  have n := ((mok_iff (mok_right h1) hz).1 hp).2.1
  obtain ⟨rfl, -, -⟩ := (mok_iff hx hy).1 h1
  exact ⟨mok_right hp, mok_right hr, same_assoc _ _ _ _ _ _ _ _ _ _ _ _ _ _ _ _ n⟩

theorem fact_self (hx : right xk xl xh xs xa xm false 0 = true) (hI : Met true xk xl xh xs xa xm xl xh xs xa xm uk ul uh us ua um) :
    right uk ul uh us ua um false 0 = true ∧ sameR uk ul uh us ua um xk xl xh xs xa xm true true = true := by
  obtain ⟨rfl, rfl, rfl, rfl, rfl, rfl⟩ := met_yes hI
  exact ⟨mok_right (mok_self hx), same_self _ _ _ _ _ _ (right_maybe hx)⟩

theorem fact_below (hx : right xk xl xh xs xa xm false 0 = true) (hy : right yk yl yh ys ya ym false 0 = true)
    (h1 : mok xk xl xh xs xa xm false 0 yk yl yh ys ya ym false 0 = true) (hu : Met true xk xl xh xs xa xm yl yh ys ya ym uk ul uh us ua um) :
    (mok uk ul uh us ua um false 0 xk xl xh xs xa xm false 0 = true ∧ below uk ul uh us ua um xl xh xs xa xm true = true) ∧
      (mok uk ul uh us ua um false 0 yk yl yh ys ya ym false 0 = true ∧ below uk ul uh us ua um yl yh ys ya ym true = true) := by
  obtain ⟨rfl, rfl, rfl, rfl, rfl, rfl⟩ := met_yes hu
  have r := mok_right h1
  obtain ⟨rfl, n, t⟩ := (mok_iff hx hy).1 h1
  have c1 := core_nil (right_core hx)
  have c2 := core_nil (right_core hy)
  have nx := (right_core hx).1
  have ny := (right_core hy).1
  have n4 : (xl ≤ xh ∧ yl ≤ xh) ∧ xl ≤ yh ∧ yl ≤ yh := by simpa only [mlo_le, le_mhi] using n
  refine ⟨⟨(mok_iff r hx).2 ⟨rfl, ?_, ?_⟩, ?_⟩, ⟨(mok_iff r hy).2 ⟨rfl, ?_, ?_⟩, ?_⟩⟩
  · simp only [mlo_le, le_mhi]; omega
  · rw [mtx_list]; cases xa <;> simp
  · simp only [below, Bool.true_and]; exact below_left _ _ _ _ _ _ _ _ _ _ _ c1 c2
  · simp only [mlo_le, le_mhi]; omega
  · rw [mtx_list]; cases xa <;> cases ya <;> simp_all
  · simp only [below, Bool.true_and]; exact below_right _ _ _ _ _ _ _ _ _ _ _ c1 c2

theorem fact_has (ok : Bool) (hx : right xk xl xh xs xa xm false 0 = true) (hy : right yk yl yh ys ya ym false 0 = true) (hz : right zk zl zh zs za zm false 0 = true) (ho : one zk zl zh za = true)
    (h1 : mok xk xl xh xs xa xm false 0 yk yl yh ys ya ym false 0 = ok) (hu : Met ok xk xl xh xs xa xm yl yh ys ya ym uk ul uh us ua um) :
    (ok && has uk ul uh us ua zk zl zs) = (has xk xl xh xs xa zk zl zs && has yk yl yh ys ya zk zl zs) := by
  have B := has_both xk xl xh xs xa yk yl yh ys ya zk zl zh zs za ho (right_core hx) (right_core hy) (right_core hz)
  rw [Bool.eq_iff_iff, Bool.and_eq_true, Bool.and_eq_true, ← B, ← mok_iff hx hy, h1]
  cases ok
  · simp
  · obtain ⟨rfl, rfl, rfl, rfl, rfl, rfl⟩ := met_yes hu
    rfl
end
/-- like, of two meets with the same fate. -/
theorem like_gen (k1 l1 h1 : Int) (s1 : ByteArray) (a1 m1 : Bool) (k2 l2 h2 : Int) (s2 : ByteArray) (a2 m2 : Bool) (ok : Bool)
    (h : Hid ((ok = true → right k1 l1 h1 s1 a1 m1 false 0 = true ∧ right k2 l2 h2 s2 a2 m2 false 0 = true ∧ sameR k1 l1 h1 s1 a1 m1 k2 l2 h2 s2 a2 m2 true true = true) ∧ (ok = false → k1 = 0 ∧ l1 = 0 ∧ h1 = 0 ∧ s1 = ⟨#[]⟩ ∧ a1 = false ∧ m1 = false))) (w : World) :
    Calls Try.prog 29 #[.agg #[.int .i64 k1, .int .i64 l1, .int .i64 h1, .string s1, .bool a1, .bool m1, .bool false, .slice none 0 0], .bool ok, .agg #[.int .i64 k2, .int .i64 l2, .int .i64 h2, .string s2, .bool a2, .bool m2, .bool false, .slice none 0 0], .bool ok] w fun e w' => e = .returned (.bool true) ∧ Below w.heap.size w w' := by
  cases ok
  · obtain ⟨rfl, rfl, rfl, rfl, rfl, rfl⟩ := h.out.2 rfl
    exact like_no _ _ _ _ _ _ _ _ _ _ w
  · obtain ⟨r1, r2, r3⟩ := h.out.1 rfl
    exact like_yes _ _ _ _ _ _ _ _ _ _ _ _ _ _ _ _ _ _ _ _ true true true r1 r2 r3 w
end Go.Proofs.Ytigdibglkejciaa.Sca
