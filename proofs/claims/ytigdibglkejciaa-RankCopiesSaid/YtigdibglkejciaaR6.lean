/-
  The comparison of values, fields and terms, by depth.
-/
import Derived.Test.YtigdibglkejciaaR5
namespace Go.Proofs.Ytigdibglkejciaa.Rank
open Go.RowKit

/-- The contract of the comparison of values. -/
def CompareOk (n : Nat) : Prop := ∀ (W : World) (B : Nat) (_ : B ≤ W.heap.size) (xf : Option Addr) (xn xc : Nat) (yf : Option Addr) (yn yc : Nat)
  (fs gs : List (Trm n)), ValIn W B n xf xn xc fs → ValIn W B n yf yn yc gs →
  Calls Try.prog 34 #[.agg #[.slice xf xn xc], .agg #[.slice yf yn yc]] W fun e w' => e = .returned (.int .i64 (cmpV n fs gs)) ∧ Below W.heap.size W w'

theorem lex_none {α : Type} (c : α → α → Int) (v u : List α) (h : v.length = 0 ∨ u.length = 0) : lex c v u = cmpI v.length u.length := by
  have := lex_short c v u 0 (by omega) (by omega) (by omega)
  simpa using this
theorem listsT_any (n : Nat) (HT : ∀ m, n = m + 1 → TermsOk m) (w : World) (B : Nat) (hB : B ≤ w.heap.size) (xa ya : Option Addr) (xn xc yn yc : Nat) (v u : List (Trm n))
    (hv : ValIn w B n xa xn xc v) (hu : ValIn w B n ya yn yc u) :
    Calls Try.prog 66 #[.slice xa xn xc, .slice ya yn yc, .func (.func 40) #[] #[]] w fun e w' => e = .returned (.int .i64 (cmpV n v u)) ∧ Below w.heap.size w w' := by
  by_cases h0 : xn = 0 ∨ yn = 0
  · refine (listsT_none w xa ya xn xc yn yc h0).mono fun e w' ⟨he, hw⟩ => ⟨?_, ?_⟩
    · rw [he, hv.len, hu.len, cmpV, lex_none]
      have := hv.len; have := hu.len; omega
    · subst hw; exact Below.refl _ _
  · cases n with
    | zero => exact absurd (Or.inl hv.1) h0
    | succ n =>
      obtain ⟨b, off, rfl, _⟩ := hv.2.2.2.2 (by intro h; have := hv.1; rw [h] at this; simp at this; omega)
      obtain ⟨b', off', rfl, _⟩ := hu.2.2.2.2 (by intro h; have := hu.1; rw [h] at this; simp at this; omega)
      exact listsT_some n (HT n rfl) w B hB b off xn xc b' off' yn yc v u hv hu
theorem listsF_any (n : Nat) (HT : FieldsOk n) (w : World) (B : Nat) (hB : B ≤ w.heap.size) (xa ya : Option Addr) (xn xc yn yc : Nat) (v u : List (ByteArray × List (Trm n)))
    (hv : FsIn w B n xa xn xc v) (hu : FsIn w B n ya yn yc u) :
    Calls Try.prog 71 #[.slice xa xn xc, .slice ya yn yc, .func (.func 72) #[] #[]] w fun e w' => e = .returned (.int .i64 (lex (cmpF n) v u)) ∧ Below w.heap.size w w' := by
  by_cases h0 : xn = 0 ∨ yn = 0
  · refine (listsF_none w xa ya xn xc yn yc h0).mono fun e w' ⟨he, hw⟩ => ⟨?_, ?_⟩
    · rw [he, hv.len, hu.len, lex_none]
      have := hv.len; have := hu.len; omega
    · subst hw; exact Below.refl _ _
  · obtain ⟨b, off, rfl, _⟩ := hv.2.2.2.2 (by intro h; have := hv.1; rw [h] at this; simp at this; omega)
    obtain ⟨b', off', rfl, _⟩ := hu.2.2.2.2 (by intro h; have := hu.1; rw [h] at this; simp at this; omega)
    exact listsF_some n HT w B hB b off xn xc b' off' yn yc v u hv hu

theorem bel2 (w : World) (o o' : Obj) : Below w.heap.size w ((w.alloc o).alloc o') := ((Below.refl _ _).alloc (Nat.le_refl _) _).alloc (by simp) _
theorem bel1 (w : World) (o : Obj) : Below w.heap.size w (w.alloc o) := (Below.refl _ _).alloc (Nat.le_refl _) _
/-- Two blocks laid one after the other read so. -/
theorem two_blocks (w : World) (A B : Array Value) (T : TypeId) : ∃ W, (w.alloc (.cells A T)).alloc (.cells B T) = W ∧ (∀ o, W.cell? ⟨w.heap.size, o, none⟩ = A[o]?) ∧ (∀ o, W.cell? ⟨w.heap.size + 1, o, none⟩ = B[o]?) ∧ w.heap.size + 1 < W.heap.size ∧ Below w.heap.size w W := by
  refine ⟨_, rfl, fun o => ?_, fun o => ?_, by simp, bel2 _ _ _⟩
  · rw [World.cell?_alloc_old _ _ _ (by simp), World.cell?_alloc_new]
  · exact (congrArg (fun z => ((w.alloc (.cells A T)).alloc (.cells B T)).cell? ⟨z, o, none⟩) (by simp)).trans (World.cell?_alloc_new (w.alloc (.cells A T)) B T o)

set_option maxHeartbeats 1000000 in
theorem compare_any (n : Nat) (HT : ∀ m, n = m + 1 → TermsOk m) : CompareOk n := by
  intro w B hB xa xn xc ya yn yc v u hv hu
  have hL : ∀ W, Below w.heap.size w W → Calls Try.prog 66 #[.slice xa xn xc, .slice ya yn yc, .func (.func 40) #[] #[]] W fun e w' => e = .returned (.int .i64 (cmpV n v u)) ∧ Below W.heap.size W w' :=
    fun W hW => listsT_any n HT W B (by have := hW.size; omega) xa ya xn xc yn yc v u (hv.below (hW.mono hB)) (hu.below (hW.mono hB))
  have HL := Lib.hid hL
  clear hL HT hv hu
  go_enter Try.func34, Try.ntmps34
  go_wp2_with (go_at_call 66; (with_reducible refine (HL.out _ (by exact bel2 _ _ _)).mono ?_); (rintro e w1 ⟨rfl, hb1⟩))
  go_ret
  exact ⟨rfl, (bel2 _ _ _).trans (hb1.mono (by simp; omega))⟩

set_option maxHeartbeats 2000000 in
theorem fields_any (n : Nat) (HC : CompareOk n) : FieldsOk n := by
  intro w B hB xs xf xn xc ys yf yn yc fs gs hx hy
  have hL : ∀ W, Below w.heap.size w W → Calls Try.prog 34 #[.agg #[.slice xf xn xc], .agg #[.slice yf yn yc]] W fun e w' => e = .returned (.int .i64 (cmpV n fs gs)) ∧ Below W.heap.size W w' :=
    fun W hW => HC W B (by have := hW.size; omega) xf xn xc yf yn yc fs gs (hx.below (hW.mono hB)) (hy.below (hW.mono hB))
  have HL := Lib.hid hL
  clear hL HC hx hy
  go_enter Try.func72, Try.ntmps72
  go_wp2
  obtain ⟨W, hW, hA, hA2, hl, hbW⟩ := two_blocks w #[.string xs, .slice xf xn xc] #[.string ys, .slice yf yn yc] 87
  rw [hW]
  clear hW
  have hl1 : w.heap.size < W.heap.size := by omega
  have hS := SB.refl W
  generalize hg : cmpV n fs gs = g at HL
  have HG := Lib.hid hg
  clear hg
  go_region_held3 (SB W) (first | (with_reducible assumption) | (with_reducible exact SB.drew (by assumption)) | (with_reducible exact SB.below (by assumption) (by assumption)) | (with_reducible exact SB.alloc (by assumption) _)) (first | (go_at_call 69; (with_reducible refine (Try.strings_Compare _ _ _).mono ?_); rintro e w1 ⟨rfl, rfl⟩) | (go_at_call 34; (with_reducible refine (HL.out _ (by exact hbW.trans ((by assumption : SB W _).2.mono hbW.size))).mono ?_); rintro e w1 ⟨rfl, hb1⟩) | (go_at_call 67; (with_reducible refine (first2 _ _ _).mono ?_); rintro e w1 ⟨rfl, rfl⟩))
  all_goals go_wp2
  all_goals go_ret
  all_goals exact ⟨ret_int (by rw [cmpF, HG.out]; unfold thn; split <;> simp_all [cmpS]), hbW.trans ((by assumption : SB W _).2.mono hbW.size)⟩

theorem flag_bd (b : Bool) : 0 ≤ flag b ∧ flag b ≤ 1 := by cases b <;> decide
theorem flag_sub (a b : Bool) : IntKind.i64.wrap (flag a - flag b) = cmpB a b := by cases a <;> cases b <;> decide
theorem terms_lex (xk xl xh yk yl yh : Int) (xs ys : ByteArray) (xa xm xo ya ym yo : Bool) (n : Nat) (fs gs : List (ByteArray × List (Trm n))) (g : Int) (hg : lex (cmpF n) fs gs = g) :
    thn (Lib.compareInt xk yk) (thn (Lib.compareInt xl yl) (thn (Lib.compareInt xh yh) (thn (Lib.compareBytes xs.data.toList ys.data.toList) (thn (cmpB xa ya) (thn (cmpB xm ym) (thn (cmpB xo yo) (thn g 0)))))))
      = cmpT (n + 1) (⟨xk, xl, xh, xs, xa, xm, xo⟩, fs) (⟨yk, yl, yh, ys, ya, ym, yo⟩, gs) := by
  have h0 : thn g 0 = g := by unfold thn; split <;> simp_all
  have h1 : ∀ a b c, thn a (thn b c) = thn (thn a b) c := by intro a b c; unfold thn; split <;> (try split) <;> simp_all
  rw [h0, ← hg]
  simp only [cmpT, cmpP, cmpI_lib, h1]
  rfl

set_option maxHeartbeats 8000000 in
theorem terms_any (n : Nat) (HF : FieldsOk n) : TermsOk n := by
  intro w B hB xk xl xh xs xa xm xo xf xn xc yk yl yh ys ya ym yo yf yn yc fs gs hx hy
  have hL : ∀ W, Below w.heap.size w W → Calls Try.prog 71 #[.slice xf xn xc, .slice yf yn yc, .func (.func 72) #[] #[]] W fun e w' => e = .returned (.int .i64 (lex (cmpF n) fs gs)) ∧ Below W.heap.size W w' :=
    fun W hW => listsF_any n HF W B (by have := hW.size; omega) xf yf xn xc yn yc fs gs (hx.below (hW.mono hB)) (hy.below (hW.mono hB))
  have HL := Lib.hid hL
  clear hL HF hx hy
  go_enter Try.func40, Try.ntmps40
  go_wp2
  obtain ⟨W, hW, hA, hA2, hl, hbW⟩ := two_blocks w #[.int .i64 xk, .int .i64 xl, .int .i64 xh, .string xs, .bool xa, .bool xm, .bool xo, .slice xf xn xc] #[.int .i64 yk, .int .i64 yl, .int .i64 yh, .string ys, .bool ya, .bool ym, .bool yo, .slice yf yn yc] 33
  rw [hW]
  clear hW
  have hl1 : w.heap.size < W.heap.size := by omega
  have hS := SB.refl W
  have f1 := flag_sub xa ya
  have f2 := flag_sub xm ym
  have f3 := flag_sub xo yo
  generalize hg : lex (cmpF n) fs gs = g at HL
  have HG := Lib.hid hg
  clear hg
  go_region_held3 (SB W) (first | (with_reducible assumption) | (with_reducible exact SB.drew (by assumption)) | (with_reducible exact SB.below (by assumption) (by assumption)) | (with_reducible exact SB.alloc (by assumption) _)) (first | (go_at_call 68; (with_reducible refine (Try.cmp_Compare_int _ _ _).mono ?_); rintro e w1 ⟨rfl, rfl⟩) | (go_at_call 69; (with_reducible refine (Try.strings_Compare _ _ _).mono ?_); rintro e w1 ⟨rfl, rfl⟩) | (go_at_call 70; (with_reducible refine (flag_any _ _).mono ?_); rintro e w1 ⟨rfl, rfl⟩) | (go_at_call 71; (with_reducible refine (HL.out _ (by exact hbW.trans ((by assumption : SB W _).2.mono hbW.size))).mono ?_); rintro e w1 ⟨rfl, hb1⟩) | (go_at_call 67; (with_reducible refine (first8 _ _ _ _ _ _ _ _ _).mono ?_); rintro e w1 ⟨rfl, rfl⟩))
  all_goals go_wp2
  all_goals go_ret
  all_goals exact ⟨ret_int (terms_lex xk xl xh yk yl yh xs ys xa xm xo ya ym yo n fs gs g HG.out), hbW.trans ((by assumption : SB W _).2.mono hbW.size)⟩

theorem compareOk : ∀ n, CompareOk n
  | 0 => compare_any 0 (fun m h => absurd h (by omega))
  | n + 1 => compare_any (n + 1) (fun m h => by
    obtain rfl : n = m := by omega
    exact terms_any n (fields_any n (compareOk n)))
theorem termsOk (n : Nat) : TermsOk n := terms_any n (fields_any n (compareOk n))
end Go.Proofs.Ytigdibglkejciaa.Rank
