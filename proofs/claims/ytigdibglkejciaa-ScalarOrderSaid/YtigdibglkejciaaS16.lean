/-
  Meets in one form for all cases, and their order: plain laws for ScalarOrder.
-/
import Derived.Test.YtigdibglkejciaaS14
namespace Go.Proofs.Ytigdibglkejciaa.Sca
open Go.RowKit

theorem meet_sel (xk xl xh : Int) (xs : ByteArray) (xa xm xo : Bool) (xf : Option Addr) (xn xc : Nat) (yk yl yh : Int) (ys : ByteArray) (ya ym yo : Bool) (yf : Option Addr) (yn yc : Nat) (ok : Bool) (K L H : Int) (tx : ByteArray) (ea mb : Bool) (hk : Hid (mok xk xl xh xs xa xm xo xn yk yl yh ys ya ym yo yn = ok))
    (hm : Hid (selI ok xk = K ∧ selI ok (mlo xl yl) = L ∧ selI ok (mhi xh yh) = H ∧ selS ok (mtx xa xs ys) = tx ∧ (ok && (xa && ya)) = ea ∧ (ok && mmb xk (mlo xl yl) (mhi xh yh) (xa && ya) (xm || ym)) = mb)) (w : World) :
    Calls Try.prog 35 #[.agg #[.int .i64 xk, .int .i64 xl, .int .i64 xh, .string xs, .bool xa, .bool xm, .bool xo, .slice xf xn xc], .agg #[.int .i64 yk, .int .i64 yl, .int .i64 yh, .string ys, .bool ya, .bool ym, .bool yo, .slice yf yn yc]] w fun e w' => e = .returned (.tuple #[.agg #[.int .i64 K, .int .i64 L, .int .i64 H, .string tx, .bool ea, .bool mb, .bool false, .slice none 0 0], .bool ok]) ∧ Below w.heap.size w w' := by
  obtain ⟨rfl, rfl, rfl, rfl, rfl, rfl⟩ := hm.out
  cases ok
  · exact meet_no xk xl xh xs xa xm xo xf xn xc yk yl yh ys ya ym yo yf yn yc hk w
  · exact meet_ok xk xl xh xs xa xm xo xf xn xc yk yl yh ys ya ym yo yf yn yc _ _ _ _ _ hk ⟨rfl, rfl, rfl, rfl, rfl⟩ w

/-- Zero is not right. -/
theorem right_zero : right 0 0 0 ⟨#[]⟩ false false false 0 = false := by decide +kernel
theorem mok_zero (yk yl yh : Int) (ys : ByteArray) (ya ym yo : Bool) (yn : Nat) : mok 0 0 0 ⟨#[]⟩ false false false 0 yk yl yh ys ya ym yo yn = false := by
  unfold mok; rw [right_zero]; simp
theorem mok_zero' (xk xl xh : Int) (xs : ByteArray) (xa xm xo : Bool) (xn : Nat) : mok xk xl xh xs xa xm xo xn 0 0 0 ⟨#[]⟩ false false false 0 = false := by
  unfold mok; rw [right_zero]; simp

/-- A right term, by what it is (r). -/
def core (k l h : Int) (s : ByteArray) (a : Bool) : Prop :=
  l ≤ h ∧ (k = 3 ∧ l = 0 ∧ h = 0 ∧ (a = true → s.toList = []) ∨ (k = 1 ∨ k = 2) ∧ s.toList = [] ∧ a = false)
theorem right_core {k l h : Int} {s : ByteArray} {a m o : Bool} {n : Nat} (hr : right k l h s a m o n = true) : core k l h s a := by
  unfold right at hr
  unfold core
  grind

section order
variable {xk xl xh : Int} {xs : ByteArray} {xa xm xo : Bool} {xn : Nat} {yk yl yh : Int} {ys : ByteArray} {ya ym yo : Bool} {yn : Nat} {zk zl zh : Int} {zs : ByteArray} {za zm zo : Bool} {zn : Nat}
/-- Something is in both, whichever comes first. -/
theorem mok_comm : mok xk xl xh xs xa xm xo xn yk yl yh ys ya ym yo yn = mok yk yl yh ys ya ym yo yn xk xl xh xs xa xm xo xn := by
  unfold mok mlo mhi
  rw [Bool.eq_iff_iff]
  simp only [Bool.and_eq_true, Bool.or_eq_true, decide_eq_true_eq, beq_iff_eq]
  grind
theorem mok_self (ha : right xk xl xh xs xa xm xo xn = true) : mok xk xl xh xs xa xm xo xn xk xl xh xs xa xm xo xn = true := by
  have := right_core ha
  unfold core at this
  unfold mok mlo mhi
  simp [ha]
  omega
theorem mlo_le (a b x : Int) : mlo a b ≤ x ↔ a ≤ x ∧ b ≤ x := by unfold mlo; split <;> omega
theorem le_mhi (a b x : Int) : x ≤ mhi a b ↔ x ≤ a ∧ x ≤ b := by unfold mhi; split <;> omega
theorem mtx_list (a : Bool) (s t : ByteArray) : (mtx a s t).toList = if a then t.toList else s.toList := by
  unfold mtx; cases a <;> rfl
/-- What is in both, as plain facts. -/
theorem mok_iff (hx : right xk xl xh xs xa xm xo xn = true) (hy : right yk yl yh ys ya ym yo yn = true) :
    mok xk xl xh xs xa xm xo xn yk yl yh ys ya ym yo yn = true ↔ xk = yk ∧ mlo xl yl ≤ mhi xh yh ∧ (xa = true ∨ ya = true ∨ xs.toList = ys.toList) := by
  unfold mok
  rw [hx, hy]
  simp only [Bool.and_eq_true, Bool.or_eq_true, decide_eq_true_eq, beq_iff_eq]
  grind
/-- Texts that are in three: the first two, then the third; or the last two, then the first. -/
theorem txt_assoc (a b c : Bool) (s t u : List UInt8) :
    ((a = true ∨ b = true ∨ s = t) ∧ ((a && b) = true ∨ c = true ∨ (if a then t else s) = u)) ↔ ((b = true ∨ c = true ∨ t = u) ∧ (a = true ∨ (b && c) = true ∨ s = if b then u else t)) := by
  cases a <;> cases b <;> cases c <;> simp
  constructor <;> (rintro ⟨rfl, rfl⟩; exact ⟨rfl, rfl⟩)
theorem num_assoc (xl xh yl yh zl zh : Int) (hx : xl ≤ xh) (hy : yl ≤ yh) (hz : zl ≤ zh) :
    (mlo xl yl ≤ mhi xh yh ∧ mlo (mlo xl yl) zl ≤ mhi (mhi xh yh) zh) ↔ (mlo yl zl ≤ mhi yh zh ∧ mlo xl (mlo yl zl) ≤ mhi xh (mhi yh zh)) := by
  simp only [mlo_le, le_mhi]
  omega
/-- Which come first makes no difference: is something in all three? -/
theorem mok_assoc (hx : right xk xl xh xs xa xm xo xn = true) (hy : right yk yl yh ys ya ym yo yn = true) (hz : right zk zl zh zs za zm zo zn = true) (m1 m2 : Bool)
    (h1 : mok xk xl xh xs xa xm xo xn yk yl yh ys ya ym yo yn = true → right xk (mlo xl yl) (mhi xh yh) (mtx xa xs ys) (xa && ya) m1 false 0 = true)
    (h2 : mok yk yl yh ys ya ym yo yn zk zl zh zs za zm zo zn = true → right yk (mlo yl zl) (mhi yh zh) (mtx ya ys zs) (ya && za) m2 false 0 = true) :
    (mok xk xl xh xs xa xm xo xn yk yl yh ys ya ym yo yn = true ∧ mok xk (mlo xl yl) (mhi xh yh) (mtx xa xs ys) (xa && ya) m1 false 0 zk zl zh zs za zm zo zn = true) ↔
    (mok yk yl yh ys ya ym yo yn zk zl zh zs za zm zo zn = true ∧ mok xk xl xh xs xa xm xo xn yk (mlo yl zl) (mhi yh zh) (mtx ya ys zs) (ya && za) m2 false 0 = true) := by
  have nx := (right_core hx).1
  have ny := (right_core hy).1
  have nz := (right_core hz).1
  have N := num_assoc xl xh yl yh zl zh nx ny nz
  have X := txt_assoc xa ya za xs.toList ys.toList zs.toList
  constructor
  · rintro ⟨a, b⟩
    rw [mok_iff (h1 a) hz, mtx_list] at b
    rw [mok_iff hx hy] at a
    obtain ⟨a1, a2, a3⟩ := a
    obtain ⟨b1, b2, b3⟩ := b
    obtain ⟨n1, n2⟩ := N.1 ⟨a2, b2⟩
    obtain ⟨x1, x2⟩ := X.1 ⟨a3, b3⟩
    have c := (mok_iff hy hz).2 ⟨a1.symm.trans b1, n1, x1⟩
    exact ⟨c, (mok_iff hx (h2 c)).2 ⟨a1, n2, by rw [mtx_list]; exact x2⟩⟩
  · rintro ⟨a, b⟩
    rw [mok_iff hx (h2 a), mtx_list] at b
    rw [mok_iff hy hz] at a
    obtain ⟨a1, a2, a3⟩ := a
    obtain ⟨b1, b2, b3⟩ := b
    obtain ⟨n1, n2⟩ := N.2 ⟨a2, b2⟩
    obtain ⟨x1, x2⟩ := X.2 ⟨a3, b3⟩
    have c := (mok_iff hx hy).2 ⟨b1, n1, x1⟩
    exact ⟨c, (mok_iff (h1 c) hz).2 ⟨b1.trans a1, n2, by rw [mtx_list]; exact x2⟩⟩
theorem one_mono (k l h l' h' : Int) (a a' : Bool) (hl : l ≤ l') (hh : h' ≤ h) (hn : l' ≤ h') (ha : a' = true → a = true) (h1 : one k l h a = true) : one k l' h' a' = true := by
  unfold one at *
  split at h1
  · cases a' <;> cases a <;> simp_all
  · rename_i hk
    rw [if_neg hk]
    simp at h1 ⊢
    omega
/-- The same is in all three, whichever come first. -/
theorem same_assoc (xk xl xh : Int) (xs : ByteArray) (xa xm : Bool) (yl yh : Int) (ys : ByteArray) (ya ym : Bool) (zl zh : Int) (zs : ByteArray) (za zm : Bool) (n : mlo (mlo xl yl) zl ≤ mhi (mhi xh yh) zh) :
    sameR xk (mlo (mlo xl yl) zl) (mhi (mhi xh yh) zh) (mtx (xa && ya) (mtx xa xs ys) zs) ((xa && ya) && za) (mmb xk (mlo (mlo xl yl) zl) (mhi (mhi xh yh) zh) ((xa && ya) && za) (mmb xk (mlo xl yl) (mhi xh yh) (xa && ya) (xm || ym) || zm))
      xk (mlo xl (mlo yl zl)) (mhi xh (mhi yh zh)) (mtx xa xs (mtx ya ys zs)) (xa && (ya && za)) (mmb xk (mlo xl (mlo yl zl)) (mhi xh (mhi yh zh)) (xa && (ya && za)) (xm || mmb xk (mlo yl zl) (mhi yh zh) (ya && za) (ym || zm))) true true = true := by
  have e1 : mlo xl (mlo yl zl) = mlo (mlo xl yl) zl := by unfold mlo; grind
  have e2 : mhi xh (mhi yh zh) = mhi (mhi xh yh) zh := by unfold mhi; grind
  have e3 : mtx xa xs (mtx ya ys zs) = mtx (xa && ya) (mtx xa xs ys) zs := by unfold mtx; cases xa <;> cases ya <;> rfl
  have e4 : (xa && (ya && za)) = ((xa && ya) && za) := by cases xa <;> rfl
  rw [e1, e2, e3, e4]
  have o1 : one xk (mlo xl yl) (mhi xh yh) (xa && ya) = true → one xk (mlo (mlo xl yl) zl) (mhi (mhi xh yh) zh) ((xa && ya) && za) = true :=
    one_mono _ _ _ _ _ _ _ (by rw [show mlo (mlo xl yl) zl = if mlo xl yl < zl then zl else mlo xl yl from rfl]; split <;> omega) (by rw [show mhi (mhi xh yh) zh = if zh < mhi xh yh then zh else mhi xh yh from rfl]; split <;> omega) n (by simp; intros; simp [*])
  have o2 : one xk (mlo yl zl) (mhi yh zh) (ya && za) = true → one xk (mlo (mlo xl yl) zl) (mhi (mhi xh yh) zh) ((xa && ya) && za) = true :=
    one_mono _ _ _ _ _ _ _ (by unfold mlo; grind) (by unfold mhi; grind) n (by simp; intros; simp [*])
  unfold sameR mmb
  generalize one xk (mlo xl yl) (mhi xh yh) (xa && ya) = p at *
  generalize one xk (mlo yl zl) (mhi yh zh) (ya && za) = q at *
  generalize one xk (mlo (mlo xl yl) zl) (mhi (mhi xh yh) zh) ((xa && ya) && za) = r at *
  simp
  cases r
  · cases p
    · cases q
      · cases xm <;> cases ym <;> cases zm <;> rfl
      · simp at o2
    · simp at o1
  · simp
/-- Whichever comes first, the same is in both. -/
theorem same_comm (xk xl xh : Int) (xs : ByteArray) (xa xm : Bool) (yl yh : Int) (ys : ByteArray) (ya ym : Bool) (t : xa = true ∨ ya = true ∨ xs.toList = ys.toList) (c1 : xa = true → xs.toList = []) (c2 : ya = true → ys.toList = []) :
    sameR xk (mlo xl yl) (mhi xh yh) (mtx xa xs ys) (xa && ya) (mmb xk (mlo xl yl) (mhi xh yh) (xa && ya) (xm || ym))
      xk (mlo yl xl) (mhi yh xh) (mtx ya ys xs) (ya && xa) (mmb xk (mlo yl xl) (mhi yh xh) (ya && xa) (ym || xm)) true true = true := by
  have e1 : mlo yl xl = mlo xl yl := by unfold mlo; grind
  have e2 : mhi yh xh = mhi xh yh := by unfold mhi; grind
  have e4 : (ya && xa) = (xa && ya) := Bool.and_comm _ _
  have e5 : (ym || xm) = (xm || ym) := Bool.or_comm _ _
  rw [e1, e2, e4, e5]
  unfold sameR
  simp [mtx_list]
  cases xa <;> cases ya <;> simp_all
theorem same_self (xk xl xh : Int) (xs : ByteArray) (xa xm : Bool) (h : (xm && one xk xl xh xa) = false) :
    sameR xk (mlo xl xl) (mhi xh xh) (mtx xa xs xs) (xa && xa) (mmb xk (mlo xl xl) (mhi xh xh) (xa && xa) (xm || xm)) xk xl xh xs xa xm true true = true := by
  have e1 : mlo xl xl = xl := by unfold mlo; simp
  have e2 : mhi xh xh = xh := by unfold mhi; simp
  have e3 : mtx xa xs xs = xs := by unfold mtx; simp
  rw [e1, e2, e3, Bool.and_self, Bool.or_self]
  unfold sameR mmb
  generalize one xk xl xh xa = o at *
  cases xm <;> cases o <;> simp_all
theorem right_maybe {k l h : Int} {s : ByteArray} {a m o : Bool} {n : Nat} (hr : right k l h s a m o n = true) : (m && one k l h a) = false := by
  unfold right at hr
  generalize one k l h a = b at *
  cases m <;> cases b <;> simp_all
/-- What is met is below both. -/
theorem below_left (xk xl xh : Int) (xs : ByteArray) (xa xm : Bool) (yl yh : Int) (ys : ByteArray) (ya ym : Bool) (c1 : xa = true → xs.toList = []) (c2 : ya = true → ys.toList = []) :
    sameR xk (mlo (mlo xl yl) xl) (mhi (mhi xh yh) xh) (mtx (xa && ya) (mtx xa xs ys) xs) ((xa && ya) && xa) (mmb xk (mlo (mlo xl yl) xl) (mhi (mhi xh yh) xh) ((xa && ya) && xa) (mmb xk (mlo xl yl) (mhi xh yh) (xa && ya) (xm || ym) || xm))
      xk (mlo xl yl) (mhi xh yh) (mtx xa xs ys) (xa && ya) (mmb xk (mlo xl yl) (mhi xh yh) (xa && ya) (xm || ym)) true true = true := by
  have e1 : mlo (mlo xl yl) xl = mlo xl yl := by unfold mlo; grind
  have e2 : mhi (mhi xh yh) xh = mhi xh yh := by unfold mhi; grind
  have e4 : ((xa && ya) && xa) = (xa && ya) := by cases xa <;> cases ya <;> rfl
  rw [e1, e2, e4]
  unfold sameR mmb
  generalize one xk (mlo xl yl) (mhi xh yh) (xa && ya) = o at *
  simp [mtx_list]
  refine ⟨?_, ?_⟩
  · cases xa <;> cases ya <;> simp_all
  · cases o <;> cases xm <;> cases ym <;> rfl
theorem below_right (xk xl xh : Int) (xs : ByteArray) (xa xm : Bool) (yl yh : Int) (ys : ByteArray) (ya ym : Bool) (c1 : xa = true → xs.toList = []) (c2 : ya = true → ys.toList = []) :
    sameR xk (mlo (mlo xl yl) yl) (mhi (mhi xh yh) yh) (mtx (xa && ya) (mtx xa xs ys) ys) ((xa && ya) && ya) (mmb xk (mlo (mlo xl yl) yl) (mhi (mhi xh yh) yh) ((xa && ya) && ya) (mmb xk (mlo xl yl) (mhi xh yh) (xa && ya) (xm || ym) || ym))
      xk (mlo xl yl) (mhi xh yh) (mtx xa xs ys) (xa && ya) (mmb xk (mlo xl yl) (mhi xh yh) (xa && ya) (xm || ym)) true true = true := by
  have e1 : mlo (mlo xl yl) yl = mlo xl yl := by unfold mlo; grind
  have e2 : mhi (mhi xh yh) yh = mhi xh yh := by unfold mhi; grind
  have e4 : ((xa && ya) && ya) = (xa && ya) := by cases xa <;> cases ya <;> rfl
  rw [e1, e2, e4]
  unfold sameR mmb
  generalize one xk (mlo xl yl) (mhi xh yh) (xa && ya) = o at *
  simp [mtx_list]
  refine ⟨?_, ?_⟩
  · cases xa <;> cases ya <;> simp_all
  · cases o <;> cases xm <;> cases ym <;> rfl
/-- An atom is in what is met, just if it is in both. -/
theorem has_both (xk xl xh : Int) (xs : ByteArray) (xa : Bool) (yk yl yh : Int) (ys : ByteArray) (ya : Bool) (zk zl zh : Int) (zs : ByteArray) (za : Bool) (hz : one zk zl zh za = true)
    (cx : core xk xl xh xs xa) (cy : core yk yl yh ys ya) (cz : core zk zl zh zs za) :
    ((xk = yk ∧ mlo xl yl ≤ mhi xh yh ∧ (xa = true ∨ ya = true ∨ xs.toList = ys.toList)) ∧ has xk (mlo xl yl) (mhi xh yh) (mtx xa xs ys) (xa && ya) zk zl zs = true) ↔
      (has xk xl xh xs xa zk zl zs = true ∧ has yk yl yh ys ya zk zl zs = true) := by
  unfold has
  unfold core at cx cy cz
  have hza : zk = 3 → za = false := by
    intro h; unfold one at hz; rw [if_pos (by simpa using h)] at hz; simpa using hz
  have hm : mlo xl yl ≤ mhi xh yh ↔ (xl ≤ xh ∧ xl ≤ yh) ∧ yl ≤ xh ∧ yl ≤ yh := by simp only [mlo_le, le_mhi]; omega
  have h1 : mlo xl yl ≤ zl ↔ xl ≤ zl ∧ yl ≤ zl := mlo_le _ _ _
  have h2 : zl ≤ mhi xh yh ↔ zl ≤ xh ∧ zl ≤ yh := le_mhi _ _ _
  rw [hm]
  simp only [Bool.and_eq_true, beq_iff_eq, mtx_list]
  by_cases e1 : xk = zk
  · by_cases e2 : yk = zk
    · subst e1
      subst e2
      by_cases h3 : yk = 3
      · simp only [h3, if_true, Bool.or_eq_true, Bool.and_eq_true, beq_iff_eq]
        cases xa <;> cases ya <;> simp <;> grind
      · simp only [h3, if_false, Bool.and_eq_true, decide_eq_true_eq, h1, h2]
        grind
    · constructor
      · rintro ⟨⟨a, -⟩, -⟩; exact absurd (a.symm.trans e1) e2
      · rintro ⟨-, a, -⟩; exact absurd a e2
  · constructor
    · rintro ⟨-, a, -⟩; exact absurd a e1
    · rintro ⟨⟨a, -⟩, -⟩; exact absurd a e1
end order
end Go.Proofs.Ytigdibglkejciaa.Sca
