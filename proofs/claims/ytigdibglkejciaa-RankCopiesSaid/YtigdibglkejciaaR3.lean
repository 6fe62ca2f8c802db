/-
  The small functions of rank, and lists of terms by a comparison.
-/
import Derived.Test.YtigdibglkejciaaR2
import Derived.Test.YtigdibglkejciaaShelf
import Derived.WalkKit
import Derived.OwnWalk
import Derived.LoopTactic
import Derived.KernelRfl
import Derived.Outline
import Derived.Deep.QuietTactic
import Derived.BigQuiet
import Derived.Deep.RegionHeld3
import Derived.Deep.DeepCutAuto
namespace Go.Proofs.Ytigdibglkejciaa.Rank
open Go.RowKit

theorem bcell {W w1 : World} (hb : Below W.heap.size W w1) : (∀ b o, b < W.heap.size → w1.cell? ⟨b, o, none⟩ = W.cell? ⟨b, o, none⟩) ∧ (∀ b o, b < W.heap.size → w1.frozen? ⟨b, o, none⟩ = W.frozen? ⟨b, o, none⟩) :=
  ⟨fun b o h => hb.cell (p := ⟨b, o, none⟩) h, fun b o h => hb.frozen (p := ⟨b, o, none⟩) h⟩
theorem ret_bool {a b : Bool} (h : a = b) : Ending.returned (.bool a) = .returned (.bool b) := by rw [h]
theorem ret_int {k : IntKind} {a b : Int} (h : a = b) : Ending.returned (.int k a) = .returned (.int k b) := by rw [h]

theorem cmpI_lib (x y : Int) : Lib.compareInt x y = cmpI x y := by unfold Lib.compareInt cmpI; rfl
theorem lex_drop {α : Type} (c : α → α → Int) (v u : List α) (k : Nat) (h1 : k < v.length) (h2 : k < u.length) :
    lex c (v.drop k) (u.drop k) = thn (c v[k] u[k]) (lex c (v.drop (k + 1)) (u.drop (k + 1))) := by
  rw [List.drop_eq_getElem_cons h1, List.drop_eq_getElem_cons h2]; rfl
theorem lex_short {α : Type} (c : α → α → Int) (v u : List α) (k : Nat) (h : v.length ≤ k ∨ u.length ≤ k) (hk : k ≤ v.length) (hk2 : k ≤ u.length) :
    lex c (v.drop k) (u.drop k) = cmpI v.length u.length := by
  unfold cmpI
  rcases h with h | h
  · obtain rfl : k = v.length := by omega
    rw [List.drop_length]
    cases hu : u.drop v.length with
    | nil => have : u.length ≤ v.length := by simpa using hu
             rw [if_neg (by omega), if_neg (by omega)]; rfl
    | cons x l => have : v.length < u.length := by have := congrArg List.length hu; simp at this; omega
                  rw [if_pos (by omega)]; rfl
  · obtain rfl : k = u.length := by omega
    rw [List.drop_length]
    cases hu : v.drop u.length with
    | nil => have : v.length ≤ u.length := by simpa using hu
             rw [if_neg (by omega), if_neg (by omega)]; rfl
    | cons x l => have : u.length < v.length := by have := congrArg List.length hu; simp at this; omega
                  rw [if_neg (by omega), if_pos (by omega)]; rfl

theorem ValIn.elem {w : World} {B n b off len cap : Nat} {v : List (Trm (n + 1))} (h : ValIn w B (n + 1) (some ⟨b, off, none⟩) len cap v) (k : Nat) (hk : k < len) :
    ∃ (xk xl xh : Int) (xs : ByteArray) (xa xm xo : Bool) (fs : List (ByteArray × List (Trm n))) (fa : Option Addr) (fl fc : Nat), Hid (∃ h : k < v.length, v[k] = (⟨xk, xl, xh, xs, xa, xm, xo⟩, fs)) ∧ b < B ∧ PlAt w b off k ⟨xk, xl, xh, xs, xa, xm, xo⟩ fa fl fc ∧ FsIn w B n fa fl fc fs := by
  obtain ⟨h1, h2, h3, h4, h5⟩ := h
  have hk' : k < v.length := by omega
  obtain ⟨b', off', e, hq, hi⟩ := h5 (by intro h0; rw [h0] at hk'; simp at hk')
  obtain ⟨rfl, rfl⟩ : b = b' ∧ off = off' := by injection e with e; injection e with e1 e2; exact ⟨e1, e2⟩
  obtain ⟨fa, fl, fc, hp, hf⟩ := hi k hk'
  exact ⟨v[k].1.k, v[k].1.l, v[k].1.h, v[k].1.s, v[k].1.a, v[k].1.m, v[k].1.o, v[k].2, fa, fl, fc, ⟨hk', rfl⟩, hq, hp, hf⟩

/-- Older blocks read as before. -/
abbrev SB (w W : World) : Prop := (∀ b o, b < w.heap.size → W.cell? ⟨b, o, none⟩ = w.cell? ⟨b, o, none⟩) ∧ Below w.heap.size w W
theorem SB.of {w W : World} (h : Below w.heap.size w W) : SB w W := ⟨fun b o hb => h.cell (p := ⟨b, o, none⟩) hb, h⟩
theorem SB.below {w W W1 : World} (h : SB w W) (hb : Below W.heap.size W W1) : SB w W1 := SB.of (h.2.trans (hb.mono h.2.size))
theorem SB.drew {w W : World} (h : SB w W) : SB w W.drew := SB.of h.2.drew
theorem SB.alloc {w W : World} (h : SB w W) (o : Obj) : SB w (W.alloc o) := SB.of (h.2.alloc h.2.size o)
theorem SB.refl (w : World) : SB w w := SB.of (Below.refl _ _)

/-- The contract of the comparison of terms. -/
def TermsOk (n : Nat) : Prop := ∀ (W : World) (B : Nat) (_ : B ≤ W.heap.size) (xk xl xh : Int) (xs : ByteArray) (xa xm xo : Bool) (xf : Option Addr) (xn xc : Nat) (yk yl yh : Int) (ys : ByteArray) (ya ym yo : Bool) (yf : Option Addr) (yn yc : Nat)
  (fs gs : List (ByteArray × List (Trm n))), FsIn W B n xf xn xc fs → FsIn W B n yf yn yc gs →
  Calls Try.prog 40 #[.agg #[.int .i64 xk, .int .i64 xl, .int .i64 xh, .string xs, .bool xa, .bool xm, .bool xo, .slice xf xn xc], .agg #[.int .i64 yk, .int .i64 yl, .int .i64 yh, .string ys, .bool ya, .bool ym, .bool yo, .slice yf yn yc]] W
    fun e w' => e = .returned (.int .i64 (cmpT (n + 1) (⟨xk, xl, xh, xs, xa, xm, xo⟩, fs) (⟨yk, yl, yh, ys, ya, ym, yo⟩, gs))) ∧ Below W.heap.size W w'

set_option maxHeartbeats 1000000 in
theorem listsT_some (n : Nat) (HT : Hid (TermsOk n)) (w : World) (B : Nat) (hB : B ≤ w.heap.size) (xb xo xn xc yb yo yn yc : Nat) (v u : List (Trm (n + 1)))
    (hv : ValIn w B (n + 1) (some ⟨xb, xo, none⟩) xn xc v) (hu : ValIn w B (n + 1) (some ⟨yb, yo, none⟩) yn yc u) :
    Calls Try.prog 66 #[.slice (some ⟨xb, xo, none⟩) xn xc, .slice (some ⟨yb, yo, none⟩) yn yc, .func (.func 40) #[] #[]] w fun e w' => e = .returned (.int .i64 (cmpV (n + 1) v u)) ∧ Below w.heap.size w w' := by
  have el := hv.len
  have el2 := hu.len
  have m1 := hv.bound
  have m2 := hu.bound
  have EL := Lib.hid el
  have EL2 := Lib.hid el2
  clear el el2
  have HV := Lib.hid hv
  have HU := Lib.hid hu
  clear hv hu
  go_enter Try.func66, Try.ntmps66
  go_wp2
  go_loopw [14] (fun i wr => ∃ k : Nat, k ≤ xn ∧ k ≤ yn ∧ i = .int .i64 k ∧ Below w.heap.size w wr ∧ Hid (cmpV (n + 1) v u = lex (cmpT (n + 1)) (v.drop k) (u.drop k))) (fun i _ => xn - (intOf i).toNat)
  case atStart => exact ⟨0, Nat.zero_le _, Nat.zero_le _, rfl, Below.refl _ _, rfl⟩
  case round =>
    obtain ⟨k, hk1, hk2, rfl, hbel, hcmp⟩ := hrel
    by_cases hlt : k < xn ∧ k < yn
    · obtain ⟨hlt1, hlt2⟩ := hlt
      have hs := hbel.size
      have h3 : (k : Int) < min (xn : Int) (yn : Int) := by omega
      have i1 : (0 : Int) ≤ (k : Int) := by omega
      have i2 : (k : Int) < (xn : Int) := by omega
      have i3 : (k : Int) < (yn : Int) := by omega
      obtain ⟨ak, al, ah, as_, aa, am, ao, fs, fa, fl, fc, hx, hxb, hxp, hxf⟩ := HV.out.elem k hlt1
      obtain ⟨bk, bl, bh, bs, ba, bm, bo, gs, ga, gl, gc, hy, hyb, hyp, hyf⟩ := HU.out.elem k hlt2
      have hP : PlAt wr xb xo k ⟨ak, al, ah, as_, aa, am, ao⟩ fa fl fc := hxp.kept (fun o => hbel.cell (p := ⟨xb, o, none⟩) (by show xb < w.heap.size; omega))
      have hQ : PlAt wr yb yo k ⟨bk, bl, bh, bs, ba, bm, bo⟩ ga gl gc := hyp.kept (fun o => hbel.cell (p := ⟨yb, o, none⟩) (by show yb < w.heap.size; omega))
      clear hxp hyp
      obtain ⟨c, hc⟩ : ∃ c, cmpT (n + 1) (⟨ak, al, ah, as_, aa, am, ao⟩, fs) (⟨bk, bl, bh, bs, ba, bm, bo⟩, gs) = c := ⟨_, rfl⟩
      have HC : ∀ W, Below wr.heap.size wr W → Calls Try.prog 40 #[.agg #[.int .i64 ak, .int .i64 al, .int .i64 ah, .string as_, .bool aa, .bool am, .bool ao, .slice fa fl fc], .agg #[.int .i64 bk, .int .i64 bl, .int .i64 bh, .string bs, .bool ba, .bool bm, .bool bo, .slice ga gl gc]] W fun e w' => e = .returned (.int .i64 c) ∧ Below W.heap.size W w' := fun W hW => hc ▸ (HT.out : TermsOk n) W B (by have := hW.size; omega) ak al ah as_ aa am ao fa fl fc bk bl bh bs ba bm bo ga gl gc fs gs (hxf.below ((hbel.mono hB).trans (hW.mono (by omega)))) (hyf.below ((hbel.mono hB).trans (hW.mono (by omega))))
      replace HC := Lib.hid HC
      clear hxf hyf
      have HD : Hid (lex (cmpT (n + 1)) (v.drop k) (u.drop k) = thn c (lex (cmpT (n + 1)) (v.drop (k + 1)) (u.drop (k + 1)))) := by
        obtain ⟨g1, e1⟩ := hx.out
        obtain ⟨g2, e2⟩ := hy.out
        rw [← hc, ← e1, ← e2]
        exact lex_drop _ v u k g1 g2
      clear hc hx hy
      obtain ⟨c0, c1, c2, c3, c4, c5, c6, c7⟩ := hP
      obtain ⟨d0, d1, d2, d3, d4, d5, d6, d7⟩ := hQ
      simp only at c0 c1 c2 c3 c4 c5 c6 d0 d1 d2 d3 d4 d5 d6
      have hl1 : xb < wr.heap.size := by omega
      have hl2 : yb < wr.heap.size := by omega
      have hS := SB.refl wr
      go_wp2
      go_region_held3 (SB wr) (first | (with_reducible assumption) | (with_reducible exact SB.drew (by assumption)) | (with_reducible exact SB.below (by assumption) (by assumption))) (first | (go_at_call 40; (with_reducible refine (HC.out _ (by exact (by assumption : SB wr _).2)).mono ?_); rintro e w1 ⟨rfl, hb1⟩))
      have hbw : Below w.heap.size w w1 := hbel.trans ((by assumption : SB wr w1).2.mono hs)
      cases h0 : ((c : Int) != 0)
      · go_wp2
        go_roundw
        case rel => exact ⟨k + 1, by omega, by omega, by go_num, hbw, hcmp.out.trans (HD.out.trans (by unfold thn; rw [if_pos (by simpa using h0)]))⟩
        case measure => simp [intOf]; omega
      · go_wp2
        go_ret
        exact ⟨ret_int (((hcmp.out.trans HD.out).trans (by unfold thn; rw [if_neg (by simpa using h0)])).symm), hbw⟩
    · have h3 : min (xn : Int) (yn : Int) ≤ (k : Int) := by omega
      have HE : Hid (cmpV (n + 1) v u = cmpI xn yn) := by
        have e1 := EL.out
        have e2 := EL2.out
        rw [hcmp.out, lex_short _ v u k (by omega) (by omega) (by omega), e1, e2]; rfl
      go_wp2_with (go_at_call 68; (with_reducible refine (Try.cmp_Compare_int _ _ _).mono ?_); rintro e w' ⟨rfl, rfl⟩)
      go_ret
      exact ⟨ret_int ((cmpI_lib _ _).trans HE.out.symm), hbel⟩

set_option maxHeartbeats 1000000 in
theorem listsT_none (w : World) (xa ya : Option Addr) (xn xc yn yc : Nat) (hn : xn = 0 ∨ yn = 0) :
    Calls Try.prog 66 #[.slice xa xn xc, .slice ya yn yc, .func (.func 40) #[] #[]] w fun e w' => e = .returned (.int .i64 (cmpI xn yn)) ∧ w = w' := by
  have h3 : min (xn : Int) (yn : Int) ≤ 0 := by omega
  clear hn
  go_enter Try.func66, Try.ntmps66
  go_wp2
  go_loop [14] (fun i => i = .int .i64 0) (fun _ => 0)
  case atStart => rfl
  case round =>
    subst hrel
    go_wp2_with (go_at_call 68; (with_reducible refine (Try.cmp_Compare_int _ _ _).mono ?_); rintro e w' ⟨rfl, rfl⟩)
    go_ret
    exact ⟨ret_int (cmpI_lib _ _), rfl⟩
end Go.Proofs.Ytigdibglkejciaa.Rank
