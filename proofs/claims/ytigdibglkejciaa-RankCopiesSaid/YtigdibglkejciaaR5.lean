/-
  Lists of fields by a comparison.
-/
import Derived.Test.YtigdibglkejciaaR4
namespace Go.Proofs.Ytigdibglkejciaa.Rank
open Go.RowKit

/-- The order of fields. -/
def cmpF (n : Nat) (f g : ByteArray × List (Trm n)) : Int := thn (cmpS f.1 g.1) (cmpV n f.2 g.2)
theorem FsIn.elem {w : World} {B n b off len cap : Nat} {v : List (ByteArray × List (Trm n))} (h : FsIn w B n (some ⟨b, off, none⟩) len cap v) (k : Nat) (hk : k < len) :
    ∃ (s : ByteArray) (x : List (Trm n)) (ta : Option Addr) (tl tc : Nat), Hid (∃ h : k < v.length, v[k] = (s, x)) ∧ b < B ∧ w.cell? ⟨b, off + k * 2, none⟩ = some (.string s) ∧ w.cell? ⟨b, off + k * 2 + 1, none⟩ = some (.slice ta tl tc) ∧ ValIn w B n ta tl tc x := by
  obtain ⟨h1, h2, h3, h4, h5⟩ := h
  have hk' : k < v.length := by omega
  obtain ⟨b', off', e, hq, hi⟩ := h5 (by intro h0; rw [h0] at hk'; simp at hk')
  obtain ⟨rfl, rfl⟩ : b = b' ∧ off = off' := by injection e with e; injection e with e1 e2; exact ⟨e1, e2⟩
  obtain ⟨c0, ta, tl, tc, c1, hV⟩ := hi k hk'
  exact ⟨v[k].1, v[k].2, ta, tl, tc, ⟨hk', rfl⟩, hq, c0, c1, hV⟩

/-- The contract of the comparison of fields. -/
def FieldsOk (n : Nat) : Prop := ∀ (W : World) (B : Nat) (_ : B ≤ W.heap.size) (xs : ByteArray) (xf : Option Addr) (xn xc : Nat) (ys : ByteArray) (yf : Option Addr) (yn yc : Nat)
  (fs gs : List (Trm n)), ValIn W B n xf xn xc fs → ValIn W B n yf yn yc gs →
  Calls Try.prog 72 #[.agg #[.string xs, .slice xf xn xc], .agg #[.string ys, .slice yf yn yc]] W
    fun e w' => e = .returned (.int .i64 (cmpF n (xs, fs) (ys, gs))) ∧ Below W.heap.size W w'

set_option maxHeartbeats 1000000 in
theorem listsF_some (n : Nat) (HT : Hid (FieldsOk n)) (w : World) (B : Nat) (hB : B ≤ w.heap.size) (xb xo xn xc yb yo yn yc : Nat) (v u : List (ByteArray × List (Trm n)))
    (hv : FsIn w B n (some ⟨xb, xo, none⟩) xn xc v) (hu : FsIn w B n (some ⟨yb, yo, none⟩) yn yc u) :
    Calls Try.prog 71 #[.slice (some ⟨xb, xo, none⟩) xn xc, .slice (some ⟨yb, yo, none⟩) yn yc, .func (.func 72) #[] #[]] w fun e w' => e = .returned (.int .i64 (lex (cmpF n) v u)) ∧ Below w.heap.size w w' := by
  have el := hv.len
  have el2 := hu.len
  have m1 := hv.bound
  have m2 := hu.bound
  have EL := Lib.hid el
  have EL2 := Lib.hid el2
  clear el el2
  have HV := Lib.hid hv
  have HU := Lib.hid hu
  clear hv hu
  go_enter Try.func71, Try.ntmps71
  go_wp2
  go_loopw [14] (fun i wr => ∃ k : Nat, k ≤ xn ∧ k ≤ yn ∧ i = .int .i64 k ∧ Below w.heap.size w wr ∧ Hid (lex (cmpF n) v u = lex (cmpF n) (v.drop k) (u.drop k))) (fun i _ => xn - (intOf i).toNat)
  case atStart => exact ⟨0, Nat.zero_le _, Nat.zero_le _, rfl, Below.refl _ _, rfl⟩
  case round =>
    obtain ⟨k, hk1, hk2, rfl, hbel, hcmp⟩ := hrel
    by_cases hlt : k < xn ∧ k < yn
    · obtain ⟨hlt1, hlt2⟩ := hlt
      have hs := hbel.size
      have h3 : (k : Int) < min (xn : Int) (yn : Int) := by omega
      have i1 : (0 : Int) ≤ (k : Int) := by omega
      have i2 : (k : Int) < (xn : Int) := by omega
      have i3 : (k : Int) < (yn : Int) := by omega
      obtain ⟨as_, fs, fa, fl, fc, hx, hxb, hx0, hx1, hxf⟩ := HV.out.elem k hlt1
      obtain ⟨bs, gs, ga, gl, gc, hy, hyb, hy0, hy1, hyf⟩ := HU.out.elem k hlt2
      have K1 := fun o => hbel.cell (p := ⟨xb, o, none⟩) (by show xb < w.heap.size; omega)
      have K2 := fun o => hbel.cell (p := ⟨yb, o, none⟩) (by show yb < w.heap.size; omega)
      have c0 := (K1 _).trans hx0
      have c1 := (K1 _).trans hx1
      have d0 := (K2 _).trans hy0
      have d1 := (K2 _).trans hy1
      clear hx0 hx1 hy0 hy1 K1 K2
      obtain ⟨c, hc⟩ : ∃ c, cmpF n (as_, fs) (bs, gs) = c := ⟨_, rfl⟩
      have HC : ∀ W, Below wr.heap.size wr W → Calls Try.prog 72 #[.agg #[.string as_, .slice fa fl fc], .agg #[.string bs, .slice ga gl gc]] W fun e w' => e = .returned (.int .i64 c) ∧ Below W.heap.size W w' := fun W hW => hc ▸ (HT.out : FieldsOk n) W B (by have := hW.size; omega) as_ fa fl fc bs ga gl gc fs gs (hxf.below ((hbel.mono hB).trans (hW.mono (by omega)))) (hyf.below ((hbel.mono hB).trans (hW.mono (by omega))))
      replace HC := Lib.hid HC
      clear hxf hyf
      have HD : Hid (lex (cmpF n) (v.drop k) (u.drop k) = thn c (lex (cmpF n) (v.drop (k + 1)) (u.drop (k + 1)))) := by
        obtain ⟨g1, e1⟩ := hx.out
        obtain ⟨g2, e2⟩ := hy.out
        rw [← hc, ← e1, ← e2]
        exact lex_drop _ v u k g1 g2
      clear hc hx hy
      have hl1 : xb < wr.heap.size := by omega
      have hl2 : yb < wr.heap.size := by omega
      have hS := SB.refl wr
      go_wp2
      go_region_held3 (SB wr) (first | (with_reducible assumption) | (with_reducible exact SB.drew (by assumption)) | (with_reducible exact SB.below (by assumption) (by assumption))) (first | (go_at_call 72; (with_reducible refine (HC.out _ (by exact (by assumption : SB wr _).2)).mono ?_); rintro e w1 ⟨rfl, hb1⟩))
      have hbw : Below w.heap.size w w1 := hbel.trans ((by assumption : SB wr w1).2.mono hs)
      cases h0 : ((c : Int) != 0)
      · go_wp2
        go_roundw
        case rel => exact ⟨k + 1, by omega, by omega, by go_num, hbw, hcmp.out.trans (HD.out.trans (by unfold thn; rw [if_pos (by simpa using h0)]))⟩
        case measure => simp [intOf]; omega
      · go_wp2
        go_ret
        exact ⟨ret_int (((hcmp.out.trans HD.out).trans (by unfold thn; rw [if_neg (by simpa using h0)])).symm), hbw⟩
    · have h3 : min (xn : Int) (yn : Int) ≤ (k : Int) := by omega
      have HE : Hid (lex (cmpF n) v u = cmpI xn yn) := by
        have e1 := EL.out
        have e2 := EL2.out
        rw [hcmp.out, lex_short _ v u k (by omega) (by omega) (by omega), e1, e2]; rfl
      go_wp2_with (go_at_call 68; (with_reducible refine (Try.cmp_Compare_int _ _ _).mono ?_); rintro e w' ⟨rfl, rfl⟩)
      go_ret
      exact ⟨ret_int ((cmpI_lib _ _).trans HE.out.symm), hbel⟩

set_option maxHeartbeats 1000000 in
theorem listsF_none (w : World) (xa ya : Option Addr) (xn xc yn yc : Nat) (hn : xn = 0 ∨ yn = 0) :
    Calls Try.prog 71 #[.slice xa xn xc, .slice ya yn yc, .func (.func 72) #[] #[]] w fun e w' => e = .returned (.int .i64 (cmpI xn yn)) ∧ w = w' := by
  have h3 : min (xn : Int) (yn : Int) ≤ 0 := by omega
  clear hn
  go_enter Try.func71, Try.ntmps71
  go_wp2
  go_loop [14] (fun i => i = .int .i64 0) (fun _ => 0)
  case atStart => rfl
  case round =>
    subst hrel
    go_wp2_with (go_at_call 68; (with_reducible refine (Try.cmp_Compare_int _ _ _).mono ?_); rintro e w' ⟨rfl, rfl⟩)
    go_ret
    exact ⟨ret_int (cmpI_lib _ _), rfl⟩
end Go.Proofs.Ytigdibglkejciaa.Rank
