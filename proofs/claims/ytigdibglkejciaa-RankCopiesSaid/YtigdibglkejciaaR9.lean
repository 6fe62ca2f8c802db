/-
  The reference's comparison of terms; all depths.
-/
import Derived.Test.YtigdibglkejciaaR8
namespace Go.Proofs.Ytigdibglkejciaa.Rank
open Go.RowKit

set_option maxHeartbeats 4000000 in
theorem termsR_none (xk xl xh : Int) (xs : ByteArray) (xa xm xo : Bool) (xf : Option Addr) (xn xc : Nat) (yk yl yh : Int) (ys : ByteArray) (ya ym yo : Bool) (yf : Option Addr) (yn yc : Nat) (p : Int) (hp : cmpP ⟨xk, xl, xh, xs, xa, xm, xo⟩ ⟨yk, yl, yh, ys, ya, ym, yo⟩ = p) (w : World) (hn : xn = 0 ∨ yn = 0) :
    Calls Try.prog 41 #[.agg #[.int .i64 xk, .int .i64 xl, .int .i64 xh, .string xs, .bool xa, .bool xm, .bool xo, .slice xf xn xc], .agg #[.int .i64 yk, .int .i64 yl, .int .i64 yh, .string ys, .bool ya, .bool ym, .bool yo, .slice yf yn yc]] w fun e w' => e = .returned (.int .i64 (thn p (cmpI xn yn))) ∧ Below w.heap.size w w' := by
  have hP : ∀ W, Calls Try.prog 73 #[.agg #[.int .i64 xk, .int .i64 xl, .int .i64 xh, .string xs, .bool xa, .bool xm, .bool xo, .slice xf xn xc], .agg #[.int .i64 yk, .int .i64 yl, .int .i64 yh, .string ys, .bool ya, .bool ym, .bool yo, .slice yf yn yc]] W fun e w' => e = .returned (.int .i64 p) ∧ Below W.heap.size W w' := fun W => hp ▸ plain_any xk xl xh xs xa xm xo xf xn xc yk yl yh ys ya ym yo yf yn yc W
  have HP := Lib.hid hP
  clear hP
  have HPP := Lib.hid hp
  clear hp
  have hd : (0 < xn) ∨ ¬ (0 < xn) := Decidable.em _
  rcases hd with hd | hd
  · have hz : decide (0 < yn) = false := by simp; omega
    have hd2 : decide (0 < xn) = true := by simp; omega
    clear hn hd
    cases h0 : ((p : Int) != 0)
    · have HE : Hid (thn p (cmpI xn yn) = cmpI xn yn) := by unfold thn; rw [if_pos (by simpa using h0)]; rfl
      go_enter Try.func41, Try.ntmps41
      go_wp2_with fail
      obtain ⟨W, hW, hA, hA2, hl, hbW⟩ := two_blocks w #[.int .i64 xk, .int .i64 xl, .int .i64 xh, .string xs, .bool xa, .bool xm, .bool xo, .slice xf xn xc] #[.int .i64 yk, .int .i64 yl, .int .i64 yh, .string ys, .bool ya, .bool ym, .bool yo, .slice yf yn yc] 33
      rw [hW]
      clear hW
      have hl1 : w.heap.size < W.heap.size := by omega
      go_wp2_with (go_at_call 73; (with_reducible refine (HP.out _).mono ?_); rintro e w1 ⟨rfl, hb1⟩)
      obtain ⟨hcl, _⟩ := SB.of hb1
      have hA' : ∀ o, w1.cell? ⟨w.heap.size, o, none⟩ = #[.int .i64 xk, .int .i64 xl, .int .i64 xh, .string xs, .bool xa, .bool xm, .bool xo, .slice xf xn xc][o]? := fun o => (hcl _ _ hl1).trans (hA o)
      have hA2' : ∀ o, w1.cell? ⟨w.heap.size + 1, o, none⟩ = #[.int .i64 yk, .int .i64 yl, .int .i64 yh, .string ys, .bool ya, .bool ym, .bool yo, .slice yf yn yc][o]? := fun o => (hcl _ _ hl).trans (hA2 o)
      have hbel : Below w.heap.size w w1 := hbW.trans (hb1.mono (by omega))
      clear hcl hA hA2 hb1 hbW
      go_loop [6] (fun i => i = .int .i64 0) (fun _ => 0)
      case atStart => rfl
      case round =>
        subst hrel
        go_wp2_with (go_at_call 75; (with_reducible refine (nums_any _ _ _).mono ?_); rintro e w2 ⟨rfl, rfl⟩)
        go_ret
        exact ⟨ret_int HE.out.symm, hbel⟩
    · have HE : Hid (thn p (cmpI xn yn) = p) := by unfold thn; rw [if_neg (by simpa using h0)]; rfl
      go_enter Try.func41, Try.ntmps41
      go_wp2_with fail
      obtain ⟨W, hW, hA, hA2, hl, hbW⟩ := two_blocks w #[.int .i64 xk, .int .i64 xl, .int .i64 xh, .string xs, .bool xa, .bool xm, .bool xo, .slice xf xn xc] #[.int .i64 yk, .int .i64 yl, .int .i64 yh, .string ys, .bool ya, .bool ym, .bool yo, .slice yf yn yc] 33
      rw [hW]
      clear hW
      have hl1 : w.heap.size < W.heap.size := by omega
      go_wp2_with (go_at_call 73; (with_reducible refine (HP.out _).mono ?_); rintro e w1 ⟨rfl, hb1⟩)
      go_ret
      exact ⟨ret_int HE.out.symm, hbW.trans (hb1.mono (by omega))⟩
  · have hd2 : decide (0 < xn) = false := by simp; omega
    clear hn hd
    cases h0 : ((p : Int) != 0)
    · have HE : Hid (thn p (cmpI xn yn) = cmpI xn yn) := by unfold thn; rw [if_pos (by simpa using h0)]; rfl
      go_enter Try.func41, Try.ntmps41
      go_wp2_with fail
      obtain ⟨W, hW, hA, hA2, hl, hbW⟩ := two_blocks w #[.int .i64 xk, .int .i64 xl, .int .i64 xh, .string xs, .bool xa, .bool xm, .bool xo, .slice xf xn xc] #[.int .i64 yk, .int .i64 yl, .int .i64 yh, .string ys, .bool ya, .bool ym, .bool yo, .slice yf yn yc] 33
      rw [hW]
      clear hW
      have hl1 : w.heap.size < W.heap.size := by omega
      go_wp2_with (go_at_call 73; (with_reducible refine (HP.out _).mono ?_); rintro e w1 ⟨rfl, hb1⟩)
      obtain ⟨hcl, _⟩ := SB.of hb1
      have hA' : ∀ o, w1.cell? ⟨w.heap.size, o, none⟩ = #[.int .i64 xk, .int .i64 xl, .int .i64 xh, .string xs, .bool xa, .bool xm, .bool xo, .slice xf xn xc][o]? := fun o => (hcl _ _ hl1).trans (hA o)
      have hA2' : ∀ o, w1.cell? ⟨w.heap.size + 1, o, none⟩ = #[.int .i64 yk, .int .i64 yl, .int .i64 yh, .string ys, .bool ya, .bool ym, .bool yo, .slice yf yn yc][o]? := fun o => (hcl _ _ hl).trans (hA2 o)
      have hbel : Below w.heap.size w w1 := hbW.trans (hb1.mono (by omega))
      clear hcl hA hA2 hb1 hbW
      go_loop [6] (fun i => i = .int .i64 0) (fun _ => 0)
      case atStart => rfl
      case round =>
        subst hrel
        go_wp2_with (go_at_call 75; (with_reducible refine (nums_any _ _ _).mono ?_); rintro e w2 ⟨rfl, rfl⟩)
        go_ret
        exact ⟨ret_int HE.out.symm, hbel⟩
    · have HE : Hid (thn p (cmpI xn yn) = p) := by unfold thn; rw [if_neg (by simpa using h0)]; rfl
      go_enter Try.func41, Try.ntmps41
      go_wp2_with fail
      obtain ⟨W, hW, hA, hA2, hl, hbW⟩ := two_blocks w #[.int .i64 xk, .int .i64 xl, .int .i64 xh, .string xs, .bool xa, .bool xm, .bool xo, .slice xf xn xc] #[.int .i64 yk, .int .i64 yl, .int .i64 yh, .string ys, .bool ya, .bool ym, .bool yo, .slice yf yn yc] 33
      rw [hW]
      clear hW
      have hl1 : w.heap.size < W.heap.size := by omega
      go_wp2_with (go_at_call 73; (with_reducible refine (HP.out _).mono ?_); rintro e w1 ⟨rfl, hb1⟩)
      go_ret
      exact ⟨ret_int HE.out.symm, hbW.trans (hb1.mono (by omega))⟩

set_option maxHeartbeats 8000000 in
theorem termsR_some (n : Nat) (HC : Hid (CompareRefOk n)) (w : World) (B : Nat) (hB : B ≤ w.heap.size) (xk xl xh : Int) (xs : ByteArray) (xa xm xo : Bool) (xb xo' xn xc : Nat) (yk yl yh : Int) (ys : ByteArray) (ya ym yo : Bool) (yb yo' yn yc : Nat) (p : Int) (hp : cmpP ⟨xk, xl, xh, xs, xa, xm, xo⟩ ⟨yk, yl, yh, ys, ya, ym, yo⟩ = p)
    (v u : List (ByteArray × List (Trm n))) (hv : FsIn w B n (some ⟨xb, xo', none⟩) xn xc v) (hu : FsIn w B n (some ⟨yb, yo', none⟩) yn yc u) :
    Calls Try.prog 41 #[.agg #[.int .i64 xk, .int .i64 xl, .int .i64 xh, .string xs, .bool xa, .bool xm, .bool xo, .slice (some ⟨xb, xo', none⟩) xn xc], .agg #[.int .i64 yk, .int .i64 yl, .int .i64 yh, .string ys, .bool ya, .bool ym, .bool yo, .slice (some ⟨yb, yo', none⟩) yn yc]] w fun e w' => e = .returned (.int .i64 (thn p (lex (cmpF n) v u))) ∧ Below w.heap.size w w' := by
  have el := hv.len
  have el2 := hu.len
  have m1 := hv.bound
  have m2 := hu.bound
  have EL := Lib.hid el
  have EL2 := Lib.hid el2
  clear el el2
  have HV := Lib.hid hv
  have HU := Lib.hid hu
  clear hv hu
  have hP : ∀ W, Calls Try.prog 73 #[.agg #[.int .i64 xk, .int .i64 xl, .int .i64 xh, .string xs, .bool xa, .bool xm, .bool xo, .slice (some ⟨xb, xo', none⟩) xn xc], .agg #[.int .i64 yk, .int .i64 yl, .int .i64 yh, .string ys, .bool ya, .bool ym, .bool yo, .slice (some ⟨yb, yo', none⟩) yn yc]] W fun e w' => e = .returned (.int .i64 p) ∧ Below W.heap.size W w' := fun W => hp ▸ plain_any xk xl xh xs xa xm xo (some ⟨xb, xo', none⟩) xn xc yk yl yh ys ya ym yo (some ⟨yb, yo', none⟩) yn yc W
  have HP := Lib.hid hP
  clear hP
  have HPP := Lib.hid hp
  clear hp
  cases h0 : ((p : Int) != 0)
  · have HE0 : Hid (thn p (lex (cmpF n) v u) = lex (cmpF n) v u) := by unfold thn; rw [if_pos (by simpa using h0)]; rfl
    go_enter Try.func41, Try.ntmps41
    go_wp2_with fail
    obtain ⟨W, hW, hA, hA2, hl, hbW⟩ := two_blocks w #[.int .i64 xk, .int .i64 xl, .int .i64 xh, .string xs, .bool xa, .bool xm, .bool xo, .slice (some ⟨xb, xo', none⟩) xn xc] #[.int .i64 yk, .int .i64 yl, .int .i64 yh, .string ys, .bool ya, .bool ym, .bool yo, .slice (some ⟨yb, yo', none⟩) yn yc] 33
    rw [hW]
    clear hW
    have hl1 : w.heap.size < W.heap.size := by omega
    go_wp2_with (go_at_call 73; (with_reducible refine (HP.out _).mono ?_); rintro e w1 ⟨rfl, hb1⟩)
    obtain ⟨hcl, _⟩ := SB.of hb1
    have hA' : ∀ o, w1.cell? ⟨w.heap.size, o, none⟩ = #[.int .i64 xk, .int .i64 xl, .int .i64 xh, .string xs, .bool xa, .bool xm, .bool xo, .slice (some ⟨xb, xo', none⟩) xn xc][o]? := fun o => (hcl _ _ hl1).trans (hA o)
    have hA2' : ∀ o, w1.cell? ⟨w.heap.size + 1, o, none⟩ = #[.int .i64 yk, .int .i64 yl, .int .i64 yh, .string ys, .bool ya, .bool ym, .bool yo, .slice (some ⟨yb, yo', none⟩) yn yc][o]? := fun o => (hcl _ _ hl).trans (hA2 o)
    have hbel1 : Below w.heap.size w w1 := hbW.trans (hb1.mono (by omega))
    have hs1 := hb1.size
    clear hcl hA hA2 hb1 hbW
    have hla : w.heap.size < w1.heap.size := by omega
    have hlb : w.heap.size + 1 < w1.heap.size := by omega
    go_loopw [6] (fun i wr => ∃ k : Nat, k ≤ xn ∧ k ≤ yn ∧ i = .int .i64 k ∧ SB w1 wr ∧ Hid (lex (cmpF n) v u = lex (cmpF n) (v.drop k) (u.drop k))) (fun i _ => xn - (intOf i).toNat)
    case atStart => exact ⟨0, Nat.zero_le _, Nat.zero_le _, rfl, SB.refl _, rfl⟩
    case round =>
      obtain ⟨k, hk1, hk2, rfl, ⟨hcl, hbr⟩, hcmp⟩ := hrel
      have hs := hbr.size
      have hB1 : ∀ o, wr.cell? ⟨w.heap.size, o, none⟩ = #[.int .i64 xk, .int .i64 xl, .int .i64 xh, .string xs, .bool xa, .bool xm, .bool xo, .slice (some ⟨xb, xo', none⟩) xn xc][o]? := fun o => (hcl _ _ hla).trans (hA' o)
      have hB2 : ∀ o, wr.cell? ⟨w.heap.size + 1, o, none⟩ = #[.int .i64 yk, .int .i64 yl, .int .i64 yh, .string ys, .bool ya, .bool ym, .bool yo, .slice (some ⟨yb, yo', none⟩) yn yc][o]? := fun o => (hcl _ _ hlb).trans (hA2' o)
      have hbel : Below w.heap.size w wr := hbel1.trans (hbr.mono (by omega))
      clear hA' hA2' hcl
      have hl1' : w.heap.size < wr.heap.size := by omega
      have hl2' : w.heap.size + 1 < wr.heap.size := by omega
      by_cases hlt : k < xn ∧ k < yn
      · obtain ⟨hlt1, hlt2⟩ := hlt
        have i1 : (0 : Int) ≤ (k : Int) := by omega
        have i2 : (k : Int) < (xn : Int) := by omega
        have i3 : (k : Int) < (yn : Int) := by omega
        obtain ⟨as_, fs, fa, fl, fc, hx, hxb, hx0, hx1, hxf⟩ := HV.out.elem k hlt1
        obtain ⟨bs, gs, ga, gl, gc, hy, hyb, hy0, hy1, hyf⟩ := HU.out.elem k hlt2
        have K1 := fun o => hbel.cell (p := ⟨xb, o, none⟩) (by show xb < w.heap.size; omega)
        have K2 := fun o => hbel.cell (p := ⟨yb, o, none⟩) (by show yb < w.heap.size; omega)
        have c0 := (K1 _).trans hx0
        have c1 := (K1 _).trans hx1
        have d0 := (K2 _).trans hy0
        have d1 := (K2 _).trans hy1
        clear hx0 hx1 hy0 hy1 K1 K2
        obtain ⟨c, hc⟩ : ∃ c, cmpV n fs gs = c := ⟨_, rfl⟩
        obtain ⟨d, hd⟩ : ∃ d, cmpS as_ bs = d := ⟨_, rfl⟩
        have HD : Hid (lex (cmpF n) (v.drop k) (u.drop k) = thn (thn d c) (lex (cmpF n) (v.drop (k + 1)) (u.drop (k + 1)))) := by
          obtain ⟨g1, e1⟩ := hx.out
          obtain ⟨g2, e2⟩ := hy.out
          have e3 : cmpF n v[k] u[k] = thn d c := by rw [e1, e2, ← hc, ← hd]; rfl
          rw [← e3]
          exact lex_drop _ v u k g1 g2
        have HC' : ∀ W, Below wr.heap.size wr W → Calls Try.prog 42 #[.agg #[.slice fa fl fc], .agg #[.slice ga gl gc]] W fun e w' => e = .returned (.int .i64 c) ∧ Below W.heap.size W w' := fun W hW => hc ▸ (HC.out : CompareRefOk n) W B (by have := hW.size; omega) fa fl fc ga gl gc fs gs (hxf.below ((hbel.mono hB).trans (hW.mono (by omega)))) (hyf.below ((hbel.mono hB).trans (hW.mono (by omega))))
        replace HC' := Lib.hid HC'
        have HX : ∀ W, Calls Try.prog 74 #[.string as_, .string bs] W fun e w' => e = .returned (.int .i64 d) ∧ W = w' := fun W => hd ▸ texts_any as_ bs W
        replace HX := Lib.hid HX
        clear hxf hyf hc hd hx hy
        have hl3 : xb < wr.heap.size := by omega
        have hl4 : yb < wr.heap.size := by omega
        have hS := SB.refl wr
        go_wp2
        go_region_held3 (SB wr) (first | (with_reducible assumption) | (with_reducible exact SB.drew (by assumption)) | (with_reducible exact SB.below (by assumption) (by assumption))) (first | (go_at_call 74; (with_reducible refine (HX.out _).mono ?_); rintro e w2 ⟨rfl, rfl⟩))
        cases hd0 : ((d : Int) != 0)
        · have hd1 : ((d : Int) == 0) = true := by simpa using hd0
          have HD1 : Hid (thn d c = c) := by unfold thn; rw [if_pos (by simpa using hd0)]; rfl
          go_wp2
          go_region_held3 (SB wr) (first | (with_reducible assumption) | (with_reducible exact SB.drew (by assumption)) | (with_reducible exact SB.below (by assumption) (by assumption))) (first | (go_at_call 42; (with_reducible refine (HC'.out _ (by exact (by assumption : SB wr _).2)).mono ?_); rintro e w2 ⟨rfl, hb1⟩))
          have hbw : SB w1 w2 := SB.of (hbr.trans ((by assumption : SB wr w2).2.mono hs))
          cases h1 : ((c : Int) != 0)
          · go_wp2
            go_roundw
            case rel => exact ⟨k + 1, by omega, by omega, by go_num, hbw, hcmp.out.trans (HD.out.trans (by rw [HD1.out]; unfold thn; rw [if_pos (by simpa using h1)]))⟩
            case measure => simp [intOf]; omega
          · go_wp2
            go_ret
            exact ⟨ret_int (by rw [HE0.out, hcmp.out, HD.out, HD1.out]; unfold thn; rw [if_neg (by simpa using h1)]), hbel.trans ((by assumption : SB wr w2).2.mono (by omega))⟩
        · have hd1 : ((d : Int) == 0) = false := by simpa using hd0
          have HD1 : Hid (thn d c = d) := by unfold thn; rw [if_neg (by simpa using hd0)]; rfl
          go_wp2
          go_ret
          exact ⟨ret_int (by rw [HE0.out, hcmp.out, HD.out, HD1.out]; unfold thn; rw [if_neg (by simpa using hd0)]), hbel.trans ((by assumption : SB wr _).2.mono (by omega))⟩
      · have HE : Hid (thn p (lex (cmpF n) v u) = cmpI xn yn) := by
          have e1 := EL.out
          have e2 := EL2.out
          rw [HE0.out, hcmp.out, lex_short _ v u k (by omega) (by omega) (by omega), e1, e2]; rfl
        have hN : ∀ W, Calls Try.prog 75 #[.int .i64 xn, .int .i64 yn] W fun e w' => e = .returned (.int .i64 (thn p (lex (cmpF n) v u))) ∧ W = w' := fun W => (nums_any _ _ W).mono fun e w' ⟨h1, h2⟩ => ⟨by rw [h1, HE.out], h2⟩
        have HN := Lib.hid hN
        clear hN
        by_cases hlt1 : k < xn
        · have hz : (yn : Int) ≤ (k : Int) := by omega
          go_wp2_with (go_at_call 75; (with_reducible refine (HN.out _).mono ?_); rintro e w2 ⟨rfl, rfl⟩)
          go_ret
          exact ⟨rfl, hbel⟩
        · have hz : (xn : Int) ≤ (k : Int) := by omega
          go_wp2_with (go_at_call 75; (with_reducible refine (HN.out _).mono ?_); rintro e w2 ⟨rfl, rfl⟩)
          go_ret
          exact ⟨rfl, hbel⟩
  · have HE : Hid (thn p (lex (cmpF n) v u) = p) := by unfold thn; rw [if_neg (by simpa using h0)]; rfl
    go_enter Try.func41, Try.ntmps41
    go_wp2_with fail
    obtain ⟨W, hW, hA, hA2, hl, hbW⟩ := two_blocks w #[.int .i64 xk, .int .i64 xl, .int .i64 xh, .string xs, .bool xa, .bool xm, .bool xo, .slice (some ⟨xb, xo', none⟩) xn xc] #[.int .i64 yk, .int .i64 yl, .int .i64 yh, .string ys, .bool ya, .bool ym, .bool yo, .slice (some ⟨yb, yo', none⟩) yn yc] 33
    rw [hW]
    clear hW
    have hl1 : w.heap.size < W.heap.size := by omega
    go_wp2_with (go_at_call 73; (with_reducible refine (HP.out _).mono ?_); rintro e w1 ⟨rfl, hb1⟩)
    go_ret
    exact ⟨ret_int HE.out.symm, hbW.trans (hb1.mono (by omega))⟩

theorem termsR_any (n : Nat) (HC : CompareRefOk n) : TermsRefOk n := by
  intro w B hB xk xl xh xs xa xm xo xf xn xc yk yl yh ys ya ym yo yf yn yc fs gs hx hy
  have ee : ∀ z, lex (cmpF n) fs gs = z → thn (cmpP ⟨xk, xl, xh, xs, xa, xm, xo⟩ ⟨yk, yl, yh, ys, ya, ym, yo⟩) z = cmpT (n + 1) (⟨xk, xl, xh, xs, xa, xm, xo⟩, fs) (⟨yk, yl, yh, ys, ya, ym, yo⟩, gs) := by
    rintro z rfl; rfl
  by_cases h0 : xn = 0 ∨ yn = 0
  · refine (termsR_none xk xl xh xs xa xm xo xf xn xc yk yl yh ys ya ym yo yf yn yc _ rfl w h0).mono fun e w' ⟨he, hw⟩ => ⟨?_, hw⟩
    rw [he, ee]
    rw [hx.len, hy.len, lex_none]
    have := hx.len; have := hy.len; omega
  · obtain ⟨b, off, rfl, _⟩ := hx.2.2.2.2 (by intro h; have := hx.1; rw [h] at this; simp at this; omega)
    obtain ⟨b', off', rfl, _⟩ := hy.2.2.2.2 (by intro h; have := hy.1; rw [h] at this; simp at this; omega)
    exact (termsR_some n HC w B hB xk xl xh xs xa xm xo b off xn xc yk yl yh ys ya ym yo b' off' yn yc _ rfl fs gs hx hy).mono fun e w' ⟨he, hw⟩ => ⟨by rw [he, ee _ rfl], hw⟩
theorem compareRefOk : ∀ n, CompareRefOk n
  | 0 => compareR_any 0 (fun m h => absurd h (by omega))
  | n + 1 => compareR_any (n + 1) (fun m h => by
    obtain rfl : n = m := by omega
    exact termsR_any n (compareRefOk n))
theorem termsRefOk (n : Nat) : TermsRefOk n := termsR_any n (compareRefOk n)
end Go.Proofs.Ytigdibglkejciaa.Rank
