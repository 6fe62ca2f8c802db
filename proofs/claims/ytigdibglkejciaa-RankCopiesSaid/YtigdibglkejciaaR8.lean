/-
  The reference's comparison of values, over that of terms.
-/
import Derived.Test.YtigdibglkejciaaR7
namespace Go.Proofs.Ytigdibglkejciaa.Rank
open Go.RowKit

/-- The contract of the reference's comparison of values. -/
def CompareRefOk (n : Nat) : Prop := ∀ (W : World) (B : Nat) (_ : B ≤ W.heap.size) (xf : Option Addr) (xn xc : Nat) (yf : Option Addr) (yn yc : Nat)
  (fs gs : List (Trm n)), ValIn W B n xf xn xc fs → ValIn W B n yf yn yc gs →
  Calls Try.prog 42 #[.agg #[.slice xf xn xc], .agg #[.slice yf yn yc]] W fun e w' => e = .returned (.int .i64 (cmpV n fs gs)) ∧ Below W.heap.size W w'
/-- The contract of the reference's comparison of terms. -/
def TermsRefOk (n : Nat) : Prop := ∀ (W : World) (B : Nat) (_ : B ≤ W.heap.size) (xk xl xh : Int) (xs : ByteArray) (xa xm xo : Bool) (xf : Option Addr) (xn xc : Nat) (yk yl yh : Int) (ys : ByteArray) (ya ym yo : Bool) (yf : Option Addr) (yn yc : Nat)
  (fs gs : List (ByteArray × List (Trm n))), FsIn W B n xf xn xc fs → FsIn W B n yf yn yc gs →
  Calls Try.prog 41 #[.agg #[.int .i64 xk, .int .i64 xl, .int .i64 xh, .string xs, .bool xa, .bool xm, .bool xo, .slice xf xn xc], .agg #[.int .i64 yk, .int .i64 yl, .int .i64 yh, .string ys, .bool ya, .bool ym, .bool yo, .slice yf yn yc]] W
    fun e w' => e = .returned (.int .i64 (cmpT (n + 1) (⟨xk, xl, xh, xs, xa, xm, xo⟩, fs) (⟨yk, yl, yh, ys, ya, ym, yo⟩, gs))) ∧ Below W.heap.size W w'

set_option maxHeartbeats 1000000 in
theorem compareR_none (w : World) (xa ya : Option Addr) (xn xc yn yc : Nat) (hn : xn = 0 ∨ yn = 0) :
    Calls Try.prog 42 #[.agg #[.slice xa xn xc], .agg #[.slice ya yn yc]] w fun e w' => e = .returned (.int .i64 (cmpI xn yn)) ∧ Below w.heap.size w w' := by
  have hd : ((0 : Int) < (xn : Int)) ∨ ¬ ((0 : Int) < (xn : Int)) := Decidable.em _
  rcases hd with hd | hd
  · have hz : decide (0 < yn) = false := by simp; omega
    have hd2 : decide (0 < xn) = true := by simp; omega
    clear hn hd
    go_enter Try.func42, Try.ntmps42
    go_wp2
    go_loop [5] (fun i => i = .int .i64 0) (fun _ => 0)
    case atStart => rfl
    case round =>
      subst hrel
      go_wp2_with (go_at_call 75; (with_reducible refine (nums_any _ _ _).mono ?_); rintro e w1 ⟨rfl, rfl⟩)
      go_ret
      exact ⟨rfl, bel2 _ _ _⟩
  · have hd2 : decide (0 < xn) = false := by simp; omega
    clear hn hd
    go_enter Try.func42, Try.ntmps42
    go_wp2
    go_loop [5] (fun i => i = .int .i64 0) (fun _ => 0)
    case atStart => rfl
    case round =>
      subst hrel
      go_wp2_with (go_at_call 75; (with_reducible refine (nums_any _ _ _).mono ?_); rintro e w1 ⟨rfl, rfl⟩)
      go_ret
      exact ⟨rfl, bel2 _ _ _⟩

set_option maxHeartbeats 4000000 in
theorem compareR_some (n : Nat) (HT : Hid (TermsRefOk n)) (w : World) (B : Nat) (hB : B ≤ w.heap.size) (xb xo xn xc yb yo yn yc : Nat) (v u : List (Trm (n + 1)))
    (hv : ValIn w B (n + 1) (some ⟨xb, xo, none⟩) xn xc v) (hu : ValIn w B (n + 1) (some ⟨yb, yo, none⟩) yn yc u) :
    Calls Try.prog 42 #[.agg #[.slice (some ⟨xb, xo, none⟩) xn xc], .agg #[.slice (some ⟨yb, yo, none⟩) yn yc]] w fun e w' => e = .returned (.int .i64 (cmpV (n + 1) v u)) ∧ Below w.heap.size w w' := by
  have el := hv.len
  have el2 := hu.len
  have m1 := hv.bound
  have m2 := hu.bound
  have EL := Lib.hid el
  have EL2 := Lib.hid el2
  clear el el2
  have HV := Lib.hid hv
  have HU := Lib.hid hu
  clear hv hu
  go_enter Try.func42, Try.ntmps42
  go_wp2
  obtain ⟨W, hW, hA, hA2, hl, hbW⟩ := two_blocks w #[.slice (some ⟨xb, xo, none⟩) xn xc] #[.slice (some ⟨yb, yo, none⟩) yn yc] 47
  rw [hW]
  clear hW
  have hl1 : w.heap.size < W.heap.size := by omega
  go_loopw [5] (fun i wr => ∃ k : Nat, k ≤ xn ∧ k ≤ yn ∧ i = .int .i64 k ∧ SB W wr ∧ Hid (cmpV (n + 1) v u = lex (cmpT (n + 1)) (v.drop k) (u.drop k))) (fun i _ => xn - (intOf i).toNat)
  case atStart => exact ⟨0, Nat.zero_le _, Nat.zero_le _, rfl, SB.refl _, rfl⟩
  case round =>
    obtain ⟨k, hk1, hk2, rfl, ⟨hcl, hbr⟩, hcmp⟩ := hrel
    have hs := hbr.size
    have hA' : ∀ o, wr.cell? ⟨w.heap.size, o, none⟩ = #[.slice (some ⟨xb, xo, none⟩) xn xc][o]? := fun o => (hcl _ _ hl1).trans (hA o)
    have hA2' : ∀ o, wr.cell? ⟨w.heap.size + 1, o, none⟩ = #[.slice (some ⟨yb, yo, none⟩) yn yc][o]? := fun o => (hcl _ _ hl).trans (hA2 o)
    have hbel : Below w.heap.size w wr := hbW.trans (hbr.mono (by omega))
    clear hA hA2 hcl hbW
    have hl1' : w.heap.size < wr.heap.size := by omega
    have hl2' : w.heap.size + 1 < wr.heap.size := by omega
    by_cases hlt : k < xn ∧ k < yn
    · obtain ⟨hlt1, hlt2⟩ := hlt
      have i1 : (0 : Int) ≤ (k : Int) := by omega
      have i2 : (k : Int) < (xn : Int) := by omega
      have i3 : (k : Int) < (yn : Int) := by omega
      obtain ⟨ak, al, ah, as_, aa, am, ao, fs, fa, fl, fc, hx, hxb, hxp, hxf⟩ := HV.out.elem k hlt1
      obtain ⟨bk, bl, bh, bs, ba, bm, bo, gs, ga, gl, gc, hy, hyb, hyp, hyf⟩ := HU.out.elem k hlt2
      have hP : PlAt wr xb xo k ⟨ak, al, ah, as_, aa, am, ao⟩ fa fl fc := hxp.kept (fun o => hbel.cell (p := ⟨xb, o, none⟩) (by show xb < w.heap.size; omega))
      have hQ : PlAt wr yb yo k ⟨bk, bl, bh, bs, ba, bm, bo⟩ ga gl gc := hyp.kept (fun o => hbel.cell (p := ⟨yb, o, none⟩) (by show yb < w.heap.size; omega))
      clear hxp hyp
      obtain ⟨c, hc⟩ : ∃ c, cmpT (n + 1) (⟨ak, al, ah, as_, aa, am, ao⟩, fs) (⟨bk, bl, bh, bs, ba, bm, bo⟩, gs) = c := ⟨_, rfl⟩
      have HC : ∀ W, Below wr.heap.size wr W → Calls Try.prog 41 #[.agg #[.int .i64 ak, .int .i64 al, .int .i64 ah, .string as_, .bool aa, .bool am, .bool ao, .slice fa fl fc], .agg #[.int .i64 bk, .int .i64 bl, .int .i64 bh, .string bs, .bool ba, .bool bm, .bool bo, .slice ga gl gc]] W fun e w' => e = .returned (.int .i64 c) ∧ Below W.heap.size W w' := fun W hW => hc ▸ (HT.out : TermsRefOk n) W B (by have := hW.size; omega) ak al ah as_ aa am ao fa fl fc bk bl bh bs ba bm bo ga gl gc fs gs (hxf.below ((hbel.mono hB).trans (hW.mono (by omega)))) (hyf.below ((hbel.mono hB).trans (hW.mono (by omega))))
      replace HC := Lib.hid HC
      clear hxf hyf
      have HD : Hid (lex (cmpT (n + 1)) (v.drop k) (u.drop k) = thn c (lex (cmpT (n + 1)) (v.drop (k + 1)) (u.drop (k + 1)))) := by
        obtain ⟨g1, e1⟩ := hx.out
        obtain ⟨g2, e2⟩ := hy.out
        rw [← hc, ← e1, ← e2]
        exact lex_drop _ v u k g1 g2
      clear hc hx hy
      obtain ⟨c0, c1, c2, c3, c4, c5, c6, c7⟩ := hP
      obtain ⟨d0, d1, d2, d3, d4, d5, d6, d7⟩ := hQ
      simp only at c0 c1 c2 c3 c4 c5 c6 d0 d1 d2 d3 d4 d5 d6
      have hl3 : xb < wr.heap.size := by omega
      have hl4 : yb < wr.heap.size := by omega
      have hS := SB.refl wr
      go_wp2
      go_region_held3 (SB wr) (first | (with_reducible assumption) | (with_reducible exact SB.drew (by assumption)) | (with_reducible exact SB.below (by assumption) (by assumption))) (first | (go_at_call 41; (with_reducible refine (HC.out _ (by exact (by assumption : SB wr _).2)).mono ?_); rintro e w1 ⟨rfl, hb1⟩))
      have hbw : SB W w1 := SB.of (hbr.trans ((by assumption : SB wr w1).2.mono hs))
      cases h0 : ((c : Int) != 0)
      · go_wp2
        go_roundw
        case rel => exact ⟨k + 1, by omega, by omega, by go_num, hbw, hcmp.out.trans (HD.out.trans (by unfold thn; rw [if_pos (by simpa using h0)]))⟩
        case measure => simp [intOf]; omega
      · go_wp2
        go_ret
        exact ⟨ret_int (((hcmp.out.trans HD.out).trans (by unfold thn; rw [if_neg (by simpa using h0)])).symm), hbel.trans ((by assumption : SB wr w1).2.mono (by omega))⟩
    · have HE : Hid (cmpV (n + 1) v u = cmpI xn yn) := by
        have e1 := EL.out
        have e2 := EL2.out
        rw [hcmp.out, lex_short _ v u k (by omega) (by omega) (by omega), e1, e2]; rfl
      have hN : ∀ W, Calls Try.prog 75 #[.int .i64 xn, .int .i64 yn] W fun e w' => e = .returned (.int .i64 (cmpV (n + 1) v u)) ∧ W = w' := fun W => (nums_any _ _ W).mono fun e w' ⟨h1, h2⟩ => ⟨by rw [h1, HE.out], h2⟩
      have HN := Lib.hid hN
      clear hN
      by_cases hlt1 : k < xn
      · have hz : (yn : Int) ≤ (k : Int) := by omega
        go_wp2_with (go_at_call 75; (with_reducible refine (HN.out _).mono ?_); rintro e w1 ⟨rfl, rfl⟩)
        go_ret
        exact ⟨rfl, hbel⟩
      · have hz : (xn : Int) ≤ (k : Int) := by omega
        go_wp2_with (go_at_call 75; (with_reducible refine (HN.out _).mono ?_); rintro e w1 ⟨rfl, rfl⟩)
        go_ret
        exact ⟨rfl, hbel⟩
theorem compareR_any (n : Nat) (HT : ∀ m, n = m + 1 → TermsRefOk m) : CompareRefOk n := by
  intro w B hB xa xn xc ya yn yc v u hv hu
  by_cases h0 : xn = 0 ∨ yn = 0
  · refine (compareR_none w xa ya xn xc yn yc h0).mono fun e w' ⟨he, hw⟩ => ⟨?_, hw⟩
    rw [he, hv.len, hu.len, cmpV, lex_none]
    have := hv.len; have := hu.len; omega
  · cases n with
    | zero => exact absurd (Or.inl hv.1) h0
    | succ n =>
      obtain ⟨b, off, rfl, _⟩ := hv.2.2.2.2 (by intro h; have := hv.1; rw [h] at this; simp at this; omega)
      obtain ⟨b', off', rfl, _⟩ := hu.2.2.2.2 (by intro h; have := hu.1; rw [h] at this; simp at this; omega)
      exact compareR_some n (HT n rfl) w B hB b off xn xc b' off' yn yc v u hv hu
end Go.Proofs.Ytigdibglkejciaa.Rank
