/-
  The walk of ScalarOrder.
-/
import Derived.Test.YtigdibglkejciaaS18
import Derived.Test.YtigdibglkejciaaS11
namespace Go.Proofs.Ytigdibglkejciaa.Sca
open Go.RowKit
set_option linter.unusedSimpArgs false
set_option linter.unusedVariables false

/-- Eight blocks of the call's own read so, and nothing older has changed. -/
abbrev S8 (w : World) (a b c d e f g i : Nat) (A B C D E F G I : Array Value) (W : World) : Prop :=
  (∀ o, W.cell? ⟨a, o, none⟩ = A[o]?) ∧ (∀ o, W.cell? ⟨b, o, none⟩ = B[o]?) ∧ (∀ o, W.cell? ⟨c, o, none⟩ = C[o]?) ∧ (∀ o, W.cell? ⟨d, o, none⟩ = D[o]?) ∧ (∀ o, W.cell? ⟨e, o, none⟩ = E[o]?) ∧ (∀ o, W.cell? ⟨f, o, none⟩ = F[o]?) ∧ (∀ o, W.cell? ⟨g, o, none⟩ = G[o]?) ∧ (∀ o, W.cell? ⟨i, o, none⟩ = I[o]?) ∧ (a < W.heap.size ∧ b < W.heap.size ∧ c < W.heap.size ∧ d < W.heap.size ∧ e < W.heap.size ∧ f < W.heap.size ∧ g < W.heap.size ∧ i < W.heap.size) ∧ Below w.heap.size w W ∧ w.heap.size ≤ W.heap.size
theorem S8.below {w : World} {a b c d e f g i : Nat} {A B C D E F G I : Array Value} {W W1 : World} (h : S8 w a b c d e f g i A B C D E F G I W) (hbel : Below W.heap.size W W1) : S8 w a b c d e f g i A B C D E F G I W1 := by
  obtain ⟨ha, hb, hc, hd, he, hf, hg, hi, ⟨la, lb, lc, ld, le, lf, lg, li⟩, hB, hs⟩ := h
  have := hbel.size
  exact ⟨fun o => (hbel.cell (p := ⟨a, o, none⟩) la).trans (ha o), fun o => (hbel.cell (p := ⟨b, o, none⟩) lb).trans (hb o), fun o => (hbel.cell (p := ⟨c, o, none⟩) lc).trans (hc o), fun o => (hbel.cell (p := ⟨d, o, none⟩) ld).trans (hd o), fun o => (hbel.cell (p := ⟨e, o, none⟩) le).trans (he o), fun o => (hbel.cell (p := ⟨f, o, none⟩) lf).trans (hf o), fun o => (hbel.cell (p := ⟨g, o, none⟩) lg).trans (hg o), fun o => (hbel.cell (p := ⟨i, o, none⟩) li).trans (hi o), ⟨by omega, by omega, by omega, by omega, by omega, by omega, by omega, by omega⟩, hB.trans (hbel.mono hs), by omega⟩
theorem S8.drew {w : World} {a b c d e f g i : Nat} {A B C D E F G I : Array Value} {W : World} (h : S8 w a b c d e f g i A B C D E F G I W) : S8 w a b c d e f g i A B C D E F G I W.drew := h.below (Below.refl _ _).drew
theorem cell_new3 (w : World) (o1 o2 : Obj) (c : Array Value) (t : TypeId) (i : Nat) : (((w.alloc o1).alloc o2).alloc (Obj.cells c t)).cell? ⟨w.heap.size + 1 + 1, i, none⟩ = c[i]? := by
  have h := World.cell?_alloc_new ((w.alloc o1).alloc o2) c t i
  rw [World.size_alloc, World.size_alloc] at h
  exact h

set_option maxHeartbeats 8000000 in
set_option maxRecDepth 100000 in
theorem order_main (xk xl xh : Int) (xs : ByteArray) (xa xm : Bool) (xf : Option Addr) (xc : Nat) (yk yl yh : Int) (ys : ByteArray) (ya ym : Bool) (yf : Option Addr) (yc : Nat) (zk zl zh : Int) (zs : ByteArray) (za zm : Bool) (zf : Option Addr) (zc : Nat) (hs1 : Hid (short xs 0 = true)) (hs2 : Hid (short ys 0 = true)) (hs3 : Hid (short zs 0 = true))
    (hr1 : Hid (right xk xl xh xs xa xm false 0 = true)) (hr2 : Hid (right yk yl yh ys ya ym false 0 = true)) (hr3 : Hid (right zk zl zh zs za zm false 0 = true)) (w : World) :
    Calls Try.prog 8 #[.agg #[.int .i64 xk, .int .i64 xl, .int .i64 xh, .string xs, .bool xa, .bool xm, .bool false, .slice xf 0 xc], .agg #[.int .i64 yk, .int .i64 yl, .int .i64 yh, .string ys, .bool ya, .bool ym, .bool false, .slice yf 0 yc], .agg #[.int .i64 zk, .int .i64 zl, .int .i64 zh, .string zs, .bool za, .bool zm, .bool false, .slice zf 0 zc]] w fun e w' => e = .returned (.bool true) ∧ Below w.heap.size w w' := by
  obtain ⟨ok1, hk1⟩ : ∃ b, Hid (mok xk xl xh xs xa xm false 0 yk yl yh ys ya ym false 0 = b) := ⟨_, rfl⟩
  have hk2 : Hid (mok yk yl yh ys ya ym false 0 xk xl xh xs xa xm false 0 = ok1) := mok_comm.trans hk1.out
  obtain ⟨uk, ul, uh, us, ua, um, hmu⟩ : ∃ k l h s a m, Hid (selI ok1 xk = k ∧ selI ok1 (mlo xl yl) = l ∧ selI ok1 (mhi xh yh) = h ∧ selS ok1 (mtx xa xs ys) = s ∧ (ok1 && (xa && ya)) = a ∧ (ok1 && mmb xk (mlo xl yl) (mhi xh yh) (xa && ya) (xm || ym)) = m) := ⟨_, _, _, _, _, _, rfl, rfl, rfl, rfl, rfl, rfl⟩
  obtain ⟨vk, vl, vh, vs, va, vm, hmv⟩ : ∃ k l h s a m, Hid (selI ok1 yk = k ∧ selI ok1 (mlo yl xl) = l ∧ selI ok1 (mhi yh xh) = h ∧ selS ok1 (mtx ya ys xs) = s ∧ (ok1 && (ya && xa)) = a ∧ (ok1 && mmb yk (mlo yl xl) (mhi yh xh) (ya && xa) (ym || xm)) = m) := ⟨_, _, _, _, _, _, rfl, rfl, rfl, rfl, rfl, rfl⟩
  obtain ⟨okp, hkp⟩ : ∃ b, Hid (mok uk ul uh us ua um false 0 zk zl zh zs za zm false 0 = b) := ⟨_, rfl⟩
  obtain ⟨pk, pl, ph, ps, pa, pm, hmp⟩ : ∃ k l h s a m, Hid (selI okp uk = k ∧ selI okp (mlo ul zl) = l ∧ selI okp (mhi uh zh) = h ∧ selS okp (mtx ua us zs) = s ∧ (okp && (ua && za)) = a ∧ (okp && mmb uk (mlo ul zl) (mhi uh zh) (ua && za) (um || zm)) = m) := ⟨_, _, _, _, _, _, rfl, rfl, rfl, rfl, rfl, rfl⟩
  obtain ⟨okq, hkq⟩ : ∃ b, Hid (mok yk yl yh ys ya ym false 0 zk zl zh zs za zm false 0 = b) := ⟨_, rfl⟩
  obtain ⟨qk, ql, qh, qs, qa, qm, hmq⟩ : ∃ k l h s a m, Hid (selI okq yk = k ∧ selI okq (mlo yl zl) = l ∧ selI okq (mhi yh zh) = h ∧ selS okq (mtx ya ys zs) = s ∧ (okq && (ya && za)) = a ∧ (okq && mmb yk (mlo yl zl) (mhi yh zh) (ya && za) (ym || zm)) = m) := ⟨_, _, _, _, _, _, rfl, rfl, rfl, rfl, rfl, rfl⟩
  obtain ⟨okr, hkr⟩ : ∃ b, Hid (mok xk xl xh xs xa xm false 0 qk ql qh qs qa qm false 0 = b) := ⟨_, rfl⟩
  obtain ⟨rk, rl, rh, rs, ra, rm, hmr⟩ : ∃ k l h s a m, Hid (selI okr xk = k ∧ selI okr (mlo xl ql) = l ∧ selI okr (mhi xh qh) = h ∧ selS okr (mtx xa xs qs) = s ∧ (okr && (xa && qa)) = a ∧ (okr && mmb xk (mlo xl ql) (mhi xh qh) (xa && qa) (xm || qm)) = m) := ⟨_, _, _, _, _, _, rfl, rfl, rfl, rfl, rfl, rfl⟩
  have hki : Hid (mok xk xl xh xs xa xm false 0 xk xl xh xs xa xm false 0 = true) := mok_self hr1.out
  obtain ⟨ik, il, ih, is, ia, im, hmi⟩ : ∃ k l h s a m, Hid (selI true xk = k ∧ selI true (mlo xl xl) = l ∧ selI true (mhi xh xh) = h ∧ selS true (mtx xa xs xs) = s ∧ (true && (xa && xa)) = a ∧ (true && mmb xk (mlo xl xl) (mhi xh xh) (xa && xa) (xm || xm)) = m) := ⟨_, _, _, _, _, _, rfl, rfl, rfl, rfl, rfl, rfl⟩
  have FL := Lib.hid (fact_like ok1 hr1.out hr2.out hk1.out hmu.out hmv.out)
  have FA := Lib.hid (fact_all ok1 okp okq okr hr1.out hr2.out hr3.out hk1.out hmu.out hkp.out hmp.out hkq.out hmq.out hkr.out hmr.out)
  have FS := fact_self hr1.out hmi.out
  have FS1 := Lib.hid FS.1
  have FS2 := Lib.hid FS.2
  clear FS
  have tk0 : True := trivial
  have tk1 : True := trivial
  have tk2 : True := trivial
  go_enter Try.func8, Try.ntmps8
  go_upto_region 9 with (first | (go_at_call 18; (with_reducible refine (short_b _ _ _ _ _ _ _ _ _ _ _ hs1 _).mono ?_); clear hs1; rintro e w1 ⟨rfl, hb_w1⟩; obtain ⟨hc_w1, hf_w1⟩ := bcell hb_w1; have hs_w1 := hb_w1.size; (try simp only [World.size_alloc] at hs_w1); have hk_w1_0 : w.heap.size < w1.heap.size := (by omega); have hk_w1_1 : w.heap.size + 1 < w1.heap.size := (by omega); have hk_w1_2 : w.heap.size + 1 + 1 < w1.heap.size := (by omega)) | (go_at_call 18; (with_reducible refine (short_b _ _ _ _ _ _ _ _ _ _ _ hs2 _).mono ?_); clear hs2; rintro e w2 ⟨rfl, hb_w2⟩; obtain ⟨hc_w2, hf_w2⟩ := bcell hb_w2; have hs_w2 := hb_w2.size; (try simp only [World.size_alloc] at hs_w2); have hk_w2_0 : w.heap.size < w2.heap.size := (by omega); have hk_w2_1 : w.heap.size + 1 < w2.heap.size := (by omega); have hk_w2_2 : w.heap.size + 1 + 1 < w2.heap.size := (by omega)) | (go_at_call 18; (with_reducible refine (short_b _ _ _ _ _ _ _ _ _ _ _ hs3 _).mono ?_); clear hs3; rintro e w3 ⟨rfl, hb_w3⟩; obtain ⟨hc_w3, hf_w3⟩ := bcell hb_w3; have hs_w3 := hb_w3.size; (try simp only [World.size_alloc] at hs_w3); have hk_w3_0 : w.heap.size < w3.heap.size := (by omega); have hk_w3_1 : w.heap.size + 1 < w3.heap.size := (by omega); have hk_w3_2 : w.heap.size + 1 + 1 < w3.heap.size := (by omega)) | (go_at_call 20; have _t := tk0; (with_reducible refine (rightRef_c _ _ _ _ _ _ _ _ _ _ _ hr1 _).mono ?_); clear tk0; rintro e w4 ⟨rfl, hb_w4⟩; obtain ⟨hc_w4, hf_w4⟩ := bcell hb_w4; have hs_w4 := hb_w4.size; (try simp only [World.size_alloc] at hs_w4); have hk_w4_0 : w.heap.size < w4.heap.size := (by omega); have hk_w4_1 : w.heap.size + 1 < w4.heap.size := (by omega); have hk_w4_2 : w.heap.size + 1 + 1 < w4.heap.size := (by omega)) | (go_at_call 20; have _t := tk1; (with_reducible refine (rightRef_c _ _ _ _ _ _ _ _ _ _ _ hr2 _).mono ?_); clear tk1; rintro e w5 ⟨rfl, hb_w5⟩; obtain ⟨hc_w5, hf_w5⟩ := bcell hb_w5; have hs_w5 := hb_w5.size; (try simp only [World.size_alloc] at hs_w5); have hk_w5_0 : w.heap.size < w5.heap.size := (by omega); have hk_w5_1 : w.heap.size + 1 < w5.heap.size := (by omega); have hk_w5_2 : w.heap.size + 1 + 1 < w5.heap.size := (by omega)) | (go_at_call 20; have _t := tk2; (with_reducible refine (rightRef_c _ _ _ _ _ _ _ _ _ _ _ hr3 _).mono ?_); clear tk2; rintro e w6 ⟨rfl, hb_w6⟩; obtain ⟨hc_w6, hf_w6⟩ := bcell hb_w6; have hs_w6 := hb_w6.size; (try simp only [World.size_alloc] at hs_w6); have hk_w6_0 : w.heap.size < w6.heap.size := (by omega); have hk_w6_1 : w.heap.size + 1 < w6.heap.size := (by omega); have hk_w6_2 : w.heap.size + 1 + 1 < w6.heap.size := (by omega)) | (go_at_call 35; (with_reducible refine (meet_sel _ _ _ _ _ _ _ _ _ _ _ _ _ _ _ _ _ _ _ _ _ _ _ _ _ _ _ hk1 hmu _).mono ?_); rintro e w7 ⟨rfl, hb_w7⟩; obtain ⟨hc_w7, hf_w7⟩ := bcell hb_w7; have hs_w7 := hb_w7.size; (try simp only [World.size_alloc] at hs_w7); have hk_w7_0 : w.heap.size < w7.heap.size := (by omega); have hk_w7_1 : w.heap.size + 1 < w7.heap.size := (by omega); have hk_w7_2 : w.heap.size + 1 + 1 < w7.heap.size := (by omega)) | (go_at_call 35; (with_reducible refine (meet_sel _ _ _ _ _ _ _ _ _ _ _ _ _ _ _ _ _ _ _ _ _ _ _ _ _ _ _ hk2 hmv _).mono ?_); rintro e w8 ⟨rfl, hb_w8⟩; obtain ⟨hc_w8, hf_w8⟩ := bcell hb_w8; have hs_w8 := hb_w8.size; (try simp only [World.size_alloc] at hs_w8); have hk_w8_0 : w.heap.size < w8.heap.size := (by omega); have hk_w8_1 : w.heap.size + 1 < w8.heap.size := (by omega); have hk_w8_2 : w.heap.size + 1 + 1 < w8.heap.size := (by omega); have hk_w8_3 : w7.heap.size < w8.heap.size := (by omega)) | (go_at_call 35; (with_reducible refine (meet_sel _ _ _ _ _ _ _ _ _ _ _ _ _ _ _ _ _ _ _ _ _ _ _ _ _ _ _ hkp hmp _).mono ?_); rintro e w9 ⟨rfl, hb_w9⟩; obtain ⟨hc_w9, hf_w9⟩ := bcell hb_w9; have hs_w9 := hb_w9.size; (try simp only [World.size_alloc] at hs_w9); have hk_w9_0 : w.heap.size < w9.heap.size := (by omega); have hk_w9_1 : w.heap.size + 1 < w9.heap.size := (by omega); have hk_w9_2 : w.heap.size + 1 + 1 < w9.heap.size := (by omega); have hk_w9_3 : w7.heap.size < w9.heap.size := (by omega); have hk_w9_4 : w8.heap.size < w9.heap.size := (by omega)) | (go_at_call 35; (with_reducible refine (meet_sel _ _ _ _ _ _ _ _ _ _ _ _ _ _ _ _ _ _ _ _ _ _ _ _ _ _ _ hkq hmq _).mono ?_); rintro e w10 ⟨rfl, hb_w10⟩; obtain ⟨hc_w10, hf_w10⟩ := bcell hb_w10; have hs_w10 := hb_w10.size; (try simp only [World.size_alloc] at hs_w10); have hk_w10_0 : w.heap.size < w10.heap.size := (by omega); have hk_w10_1 : w.heap.size + 1 < w10.heap.size := (by omega); have hk_w10_2 : w.heap.size + 1 + 1 < w10.heap.size := (by omega); have hk_w10_3 : w7.heap.size < w10.heap.size := (by omega); have hk_w10_4 : w8.heap.size < w10.heap.size := (by omega); have hk_w10_5 : w9.heap.size < w10.heap.size := (by omega)) | (go_at_call 35; (with_reducible refine (meet_sel _ _ _ _ _ _ _ _ _ _ _ _ _ _ _ _ _ _ _ _ _ _ _ _ _ _ _ hkr hmr _).mono ?_); rintro e w11 ⟨rfl, hb_w11⟩; obtain ⟨hc_w11, hf_w11⟩ := bcell hb_w11; have hs_w11 := hb_w11.size; (try simp only [World.size_alloc] at hs_w11); have hk_w11_0 : w.heap.size < w11.heap.size := (by omega); have hk_w11_1 : w.heap.size + 1 < w11.heap.size := (by omega); have hk_w11_2 : w.heap.size + 1 + 1 < w11.heap.size := (by omega); have hk_w11_3 : w7.heap.size < w11.heap.size := (by omega); have hk_w11_4 : w8.heap.size < w11.heap.size := (by omega); have hk_w11_5 : w9.heap.size < w11.heap.size := (by omega); have hk_w11_6 : w10.heap.size < w11.heap.size := (by omega)) | (go_at_call 35; (with_reducible refine (meet_sel _ _ _ _ _ _ _ _ _ _ _ _ _ _ _ _ _ _ _ _ _ _ _ _ _ _ _ hki hmi _).mono ?_); rintro e w12 ⟨rfl, hb_w12⟩; obtain ⟨hc_w12, hf_w12⟩ := bcell hb_w12; have hs_w12 := hb_w12.size; (try simp only [World.size_alloc] at hs_w12); have hk_w12_0 : w.heap.size < w12.heap.size := (by omega); have hk_w12_1 : w.heap.size + 1 < w12.heap.size := (by omega); have hk_w12_2 : w.heap.size + 1 + 1 < w12.heap.size := (by omega); have hk_w12_3 : w7.heap.size < w12.heap.size := (by omega); have hk_w12_4 : w8.heap.size < w12.heap.size := (by omega); have hk_w12_5 : w9.heap.size < w12.heap.size := (by omega); have hk_w12_6 : w10.heap.size < w12.heap.size := (by omega); have hk_w12_7 : w11.heap.size < w12.heap.size := (by omega)))
  have hS : (S8 w w.heap.size (w.heap.size + 1) (w.heap.size + 1 + 1) w7.heap.size w8.heap.size w9.heap.size w11.heap.size w12.heap.size #[.int .i64 xk, .int .i64 xl, .int .i64 xh, .string xs, .bool xa, .bool xm, .bool false, .slice xf 0 xc] #[.int .i64 yk, .int .i64 yl, .int .i64 yh, .string ys, .bool ya, .bool ym, .bool false, .slice yf 0 yc] #[.int .i64 zk, .int .i64 zl, .int .i64 zh, .string zs, .bool za, .bool zm, .bool false, .slice zf 0 zc] #[.int .i64 uk, .int .i64 ul, .int .i64 uh, .string us, .bool ua, .bool um, .bool false, .slice none 0 0] #[.int .i64 vk, .int .i64 vl, .int .i64 vh, .string vs, .bool va, .bool vm, .bool false, .slice none 0 0] #[.int .i64 pk, .int .i64 pl, .int .i64 ph, .string ps, .bool pa, .bool pm, .bool false, .slice none 0 0] #[.int .i64 rk, .int .i64 rl, .int .i64 rh, .string rs, .bool ra, .bool rm, .bool false, .slice none 0 0] #[.int .i64 ik, .int .i64 il, .int .i64 ih, .string is, .bool ia, .bool im, .bool false, .slice none 0 0]) (w12.alloc (.cells #[.int .i64 ik, .int .i64 il, .int .i64 ih, .string is, .bool ia, .bool im, .bool false, .slice none 0 0] 33)) :=
    ⟨fun o => by rw [World.cell?_alloc_lt _ _ _ (by first | omega | (simp; done) | (simp; omega)), hc_w12 _ _ (by first | omega | (simp; done) | (simp; omega)), World.cell?_alloc_lt _ _ _ (by first | omega | (simp; done) | (simp; omega)), hc_w11 _ _ (by first | omega | (simp; done) | (simp; omega)), World.cell?_alloc_lt _ _ _ (by first | omega | (simp; done) | (simp; omega)), hc_w10 _ _ (by first | omega | (simp; done) | (simp; omega)), World.cell?_alloc_lt _ _ _ (by first | omega | (simp; done) | (simp; omega)), hc_w9 _ _ (by first | omega | (simp; done) | (simp; omega)), World.cell?_alloc_lt _ _ _ (by first | omega | (simp; done) | (simp; omega)), hc_w8 _ _ (by first | omega | (simp; done) | (simp; omega)), World.cell?_alloc_lt _ _ _ (by first | omega | (simp; done) | (simp; omega)), hc_w7 _ _ (by first | omega | (simp; done) | (simp; omega)), hc_w6 _ _ (by first | omega | (simp; done) | (simp; omega)), hc_w5 _ _ (by first | omega | (simp; done) | (simp; omega)), hc_w4 _ _ (by first | omega | (simp; done) | (simp; omega)), hc_w3 _ _ (by first | omega | (simp; done) | (simp; omega)), hc_w2 _ _ (by first | omega | (simp; done) | (simp; omega)), hc_w1 _ _ (by first | omega | (simp; done) | (simp; omega)), World.cell?_alloc_lt _ _ _ (by first | omega | (simp; done) | (simp; omega)), World.cell?_alloc_lt _ _ _ (by first | omega | (simp; done) | (simp; omega)), World.cell?_alloc_new],
     fun o => by rw [World.cell?_alloc_lt _ _ _ (by first | omega | (simp; done) | (simp; omega)), hc_w12 _ _ (by first | omega | (simp; done) | (simp; omega)), World.cell?_alloc_lt _ _ _ (by first | omega | (simp; done) | (simp; omega)), hc_w11 _ _ (by first | omega | (simp; done) | (simp; omega)), World.cell?_alloc_lt _ _ _ (by first | omega | (simp; done) | (simp; omega)), hc_w10 _ _ (by first | omega | (simp; done) | (simp; omega)), World.cell?_alloc_lt _ _ _ (by first | omega | (simp; done) | (simp; omega)), hc_w9 _ _ (by first | omega | (simp; done) | (simp; omega)), World.cell?_alloc_lt _ _ _ (by first | omega | (simp; done) | (simp; omega)), hc_w8 _ _ (by first | omega | (simp; done) | (simp; omega)), World.cell?_alloc_lt _ _ _ (by first | omega | (simp; done) | (simp; omega)), hc_w7 _ _ (by first | omega | (simp; done) | (simp; omega)), hc_w6 _ _ (by first | omega | (simp; done) | (simp; omega)), hc_w5 _ _ (by first | omega | (simp; done) | (simp; omega)), hc_w4 _ _ (by first | omega | (simp; done) | (simp; omega)), hc_w3 _ _ (by first | omega | (simp; done) | (simp; omega)), hc_w2 _ _ (by first | omega | (simp; done) | (simp; omega)), hc_w1 _ _ (by first | omega | (simp; done) | (simp; omega)), World.cell?_alloc_lt _ _ _ (by first | omega | (simp; done) | (simp; omega))]; exact cell_new2 _ _ _ _ _,
     fun o => by rw [World.cell?_alloc_lt _ _ _ (by first | omega | (simp; done) | (simp; omega)), hc_w12 _ _ (by first | omega | (simp; done) | (simp; omega)), World.cell?_alloc_lt _ _ _ (by first | omega | (simp; done) | (simp; omega)), hc_w11 _ _ (by first | omega | (simp; done) | (simp; omega)), World.cell?_alloc_lt _ _ _ (by first | omega | (simp; done) | (simp; omega)), hc_w10 _ _ (by first | omega | (simp; done) | (simp; omega)), World.cell?_alloc_lt _ _ _ (by first | omega | (simp; done) | (simp; omega)), hc_w9 _ _ (by first | omega | (simp; done) | (simp; omega)), World.cell?_alloc_lt _ _ _ (by first | omega | (simp; done) | (simp; omega)), hc_w8 _ _ (by first | omega | (simp; done) | (simp; omega)), World.cell?_alloc_lt _ _ _ (by first | omega | (simp; done) | (simp; omega)), hc_w7 _ _ (by first | omega | (simp; done) | (simp; omega)), hc_w6 _ _ (by first | omega | (simp; done) | (simp; omega)), hc_w5 _ _ (by first | omega | (simp; done) | (simp; omega)), hc_w4 _ _ (by first | omega | (simp; done) | (simp; omega)), hc_w3 _ _ (by first | omega | (simp; done) | (simp; omega)), hc_w2 _ _ (by first | omega | (simp; done) | (simp; omega)), hc_w1 _ _ (by first | omega | (simp; done) | (simp; omega))]; exact cell_new3 _ _ _ _ _ _,
     fun o => by rw [World.cell?_alloc_lt _ _ _ (by first | omega | (simp; done) | (simp; omega)), hc_w12 _ _ (by first | omega | (simp; done) | (simp; omega)), World.cell?_alloc_lt _ _ _ (by first | omega | (simp; done) | (simp; omega)), hc_w11 _ _ (by first | omega | (simp; done) | (simp; omega)), World.cell?_alloc_lt _ _ _ (by first | omega | (simp; done) | (simp; omega)), hc_w10 _ _ (by first | omega | (simp; done) | (simp; omega)), World.cell?_alloc_lt _ _ _ (by first | omega | (simp; done) | (simp; omega)), hc_w9 _ _ (by first | omega | (simp; done) | (simp; omega)), World.cell?_alloc_lt _ _ _ (by first | omega | (simp; done) | (simp; omega)), hc_w8 _ _ (by first | omega | (simp; done) | (simp; omega)), World.cell?_alloc_new],
     fun o => by rw [World.cell?_alloc_lt _ _ _ (by first | omega | (simp; done) | (simp; omega)), hc_w12 _ _ (by first | omega | (simp; done) | (simp; omega)), World.cell?_alloc_lt _ _ _ (by first | omega | (simp; done) | (simp; omega)), hc_w11 _ _ (by first | omega | (simp; done) | (simp; omega)), World.cell?_alloc_lt _ _ _ (by first | omega | (simp; done) | (simp; omega)), hc_w10 _ _ (by first | omega | (simp; done) | (simp; omega)), World.cell?_alloc_lt _ _ _ (by first | omega | (simp; done) | (simp; omega)), hc_w9 _ _ (by first | omega | (simp; done) | (simp; omega)), World.cell?_alloc_new],
     fun o => by rw [World.cell?_alloc_lt _ _ _ (by first | omega | (simp; done) | (simp; omega)), hc_w12 _ _ (by first | omega | (simp; done) | (simp; omega)), World.cell?_alloc_lt _ _ _ (by first | omega | (simp; done) | (simp; omega)), hc_w11 _ _ (by first | omega | (simp; done) | (simp; omega)), World.cell?_alloc_lt _ _ _ (by first | omega | (simp; done) | (simp; omega)), hc_w10 _ _ (by first | omega | (simp; done) | (simp; omega)), World.cell?_alloc_new],
     fun o => by rw [World.cell?_alloc_lt _ _ _ (by first | omega | (simp; done) | (simp; omega)), hc_w12 _ _ (by first | omega | (simp; done) | (simp; omega)), World.cell?_alloc_new],
     fun o => World.cell?_alloc_new _ _ _ _, ⟨by first | omega | (simp; done) | (simp; omega), by first | omega | (simp; done) | (simp; omega), by first | omega | (simp; done) | (simp; omega), by first | omega | (simp; done) | (simp; omega), by first | omega | (simp; done) | (simp; omega), by first | omega | (simp; done) | (simp; omega), by first | omega | (simp; done) | (simp; omega), by first | omega | (simp; done) | (simp; omega)⟩, by (repeat (first | (with_reducible exact Below.refl _ _) | ((with_reducible refine Below.alloc ?_ ?_ _); rotate_left; (focus (first | omega | (simp; done) | (simp; omega)))) | ((with_reducible refine Below.setCell ?_ ?_ _); rotate_left; (focus (first | omega | (simp; done) | (simp; omega)))) | ((with_reducible refine Below.trans ?_ (Below.mono (by assumption) ?_)); rotate_left; (focus (first | omega | (simp; done) | (simp; omega)))) | (with_reducible assumption))), by simp; omega⟩
  generalize (w12.alloc (.cells #[.int .i64 ik, .int .i64 il, .int .i64 ih, .string is, .bool ia, .bool im, .bool false, .slice none 0 0] 33)) = W at hS ⊢
  clear hc_w1 hf_w1 hs_w1 hb_w1 hk_w1_0 hk_w1_1 hk_w1_2 hc_w2 hf_w2 hs_w2 hb_w2 hk_w2_0 hk_w2_1 hk_w2_2 hc_w3 hf_w3 hs_w3 hb_w3 hk_w3_0 hk_w3_1 hk_w3_2 hc_w4 hf_w4 hs_w4 hb_w4 hk_w4_0 hk_w4_1 hk_w4_2 hc_w5 hf_w5 hs_w5 hb_w5 hk_w5_0 hk_w5_1 hk_w5_2 hc_w6 hf_w6 hs_w6 hb_w6 hk_w6_0 hk_w6_1 hk_w6_2 hc_w7 hf_w7 hs_w7 hb_w7 hk_w7_0 hk_w7_1 hk_w7_2 hc_w8 hf_w8 hs_w8 hb_w8 hk_w8_0 hk_w8_1 hk_w8_2 hk_w8_3 hc_w9 hf_w9 hs_w9 hb_w9 hk_w9_0 hk_w9_1 hk_w9_2 hk_w9_3 hk_w9_4 hc_w10 hf_w10 hs_w10 hb_w10 hk_w10_0 hk_w10_1 hk_w10_2 hk_w10_3 hk_w10_4 hk_w10_5 hc_w11 hf_w11 hs_w11 hb_w11 hk_w11_0 hk_w11_1 hk_w11_2 hk_w11_3 hk_w11_4 hk_w11_5 hk_w11_6 hc_w12 hf_w12 hs_w12 hb_w12 hk_w12_0 hk_w12_1 hk_w12_2 hk_w12_3 hk_w12_4 hk_w12_5 hk_w12_6 hk_w12_7
  go_cut [110] (fun s110 wx => s110 = .bool false ∧ (S8 w w.heap.size (w.heap.size + 1) (w.heap.size + 1 + 1) w7.heap.size w8.heap.size w9.heap.size w11.heap.size w12.heap.size #[.int .i64 xk, .int .i64 xl, .int .i64 xh, .string xs, .bool xa, .bool xm, .bool false, .slice xf 0 xc] #[.int .i64 yk, .int .i64 yl, .int .i64 yh, .string ys, .bool ya, .bool ym, .bool false, .slice yf 0 yc] #[.int .i64 zk, .int .i64 zl, .int .i64 zh, .string zs, .bool za, .bool zm, .bool false, .slice zf 0 zc] #[.int .i64 uk, .int .i64 ul, .int .i64 uh, .string us, .bool ua, .bool um, .bool false, .slice none 0 0] #[.int .i64 vk, .int .i64 vl, .int .i64 vh, .string vs, .bool va, .bool vm, .bool false, .slice none 0 0] #[.int .i64 pk, .int .i64 pl, .int .i64 ph, .string ps, .bool pa, .bool pm, .bool false, .slice none 0 0] #[.int .i64 rk, .int .i64 rl, .int .i64 rh, .string rs, .bool ra, .bool rm, .bool false, .slice none 0 0] #[.int .i64 ik, .int .i64 il, .int .i64 ih, .string is, .bool ia, .bool im, .bool false, .slice none 0 0]) wx)
  case first =>
    have FA1 := FA.out.1
    cases ok1 <;> cases okq <;> simp only [Bool.true_and, Bool.false_and] at FA1
    all_goals (try subst FA1)
    · go_wp2_with (first | (go_at_call 29; (with_reducible refine (like_gen _ _ _ _ _ _ _ _ _ _ _ _ _ FL _).mono ?_); rintro e w13 ⟨rfl, hb13⟩; replace hS := S8.below hS hb13) | (go_at_call 25; (with_reducible refine (sameRef_b _ _ _ _ _ _ _ _ _ _ _ _ _ _ _ _ _ _ _ _ _ _ FS1 hr1 _).mono ?_); rw [FS2.out]; rintro e w13 ⟨rfl, hb13⟩; replace hS := S8.below hS hb13))
      go_meet
      case rel => exact ⟨by simp, hS⟩
    · go_wp2_with (first | (go_at_call 29; (with_reducible refine (like_gen _ _ _ _ _ _ _ _ _ _ _ _ _ FL _).mono ?_); rintro e w13 ⟨rfl, hb13⟩; replace hS := S8.below hS hb13) | (go_at_call 25; (with_reducible refine (sameRef_b _ _ _ _ _ _ _ _ _ _ _ _ _ _ _ _ _ _ _ _ _ _ FS1 hr1 _).mono ?_); rw [FS2.out]; rintro e w13 ⟨rfl, hb13⟩; replace hS := S8.below hS hb13))
      go_meet
      case rel => exact ⟨by simp, hS⟩
    · go_wp2_with (first | (go_at_call 29; (with_reducible refine (like_gen _ _ _ _ _ _ _ _ _ _ _ _ _ FL _).mono ?_); rintro e w13 ⟨rfl, hb13⟩; replace hS := S8.below hS hb13) | (go_at_call 25; (with_reducible refine (sameRef_b _ _ _ _ _ _ _ _ _ _ _ _ _ _ _ _ _ _ _ _ _ _ FS1 hr1 _).mono ?_); rw [FS2.out]; rintro e w13 ⟨rfl, hb13⟩; replace hS := S8.below hS hb13))
      go_meet
      case rel => exact ⟨by simp, hS⟩
    · go_wp2_with (first | (go_at_call 29; (with_reducible refine (like_gen _ _ _ _ _ _ _ _ _ _ _ _ _ FL _).mono ?_); rintro e w13 ⟨rfl, hb13⟩; replace hS := S8.below hS hb13) | (go_at_call 25; (with_reducible refine (sameRef_b _ _ _ _ _ _ _ _ _ _ _ _ _ _ _ _ _ _ _ _ _ _ FS1 hr1 _).mono ?_); rw [FS2.out]; rintro e w13 ⟨rfl, hb13⟩; replace hS := S8.below hS hb13))
      go_meet
      case rel => exact ⟨by simp, hS⟩
  case rest =>
    obtain ⟨rfl, hS⟩ := hcut
    go_upto_region 11 with fail
    go_cut [135] (fun s135 wx => s135 = .bool false ∧ (S8 w w.heap.size (w.heap.size + 1) (w.heap.size + 1 + 1) w7.heap.size w8.heap.size w9.heap.size w11.heap.size w12.heap.size #[.int .i64 xk, .int .i64 xl, .int .i64 xh, .string xs, .bool xa, .bool xm, .bool false, .slice xf 0 xc] #[.int .i64 yk, .int .i64 yl, .int .i64 yh, .string ys, .bool ya, .bool ym, .bool false, .slice yf 0 yc] #[.int .i64 zk, .int .i64 zl, .int .i64 zh, .string zs, .bool za, .bool zm, .bool false, .slice zf 0 zc] #[.int .i64 uk, .int .i64 ul, .int .i64 uh, .string us, .bool ua, .bool um, .bool false, .slice none 0 0] #[.int .i64 vk, .int .i64 vl, .int .i64 vh, .string vs, .bool va, .bool vm, .bool false, .slice none 0 0] #[.int .i64 pk, .int .i64 pl, .int .i64 ph, .string ps, .bool pa, .bool pm, .bool false, .slice none 0 0] #[.int .i64 rk, .int .i64 rl, .int .i64 rh, .string rs, .bool ra, .bool rm, .bool false, .slice none 0 0] #[.int .i64 ik, .int .i64 il, .int .i64 ih, .string is, .bool ia, .bool im, .bool false, .slice none 0 0]) wx)
    case first =>
      cases ok1
      · go_wp2_with fail
        go_meet
        case rel => exact ⟨by simp, hS⟩
      · have FB := fact_below hr1.out hr2.out hk1.out hmu.out
        have hkux := Lib.hid FB.1.1
        have hbx := Lib.hid FB.1.2
        have hkuy := Lib.hid FB.2.1
        have hby := Lib.hid FB.2.2
        clear FB
        cases okp
        · go_wp2_with (first | (go_at_call 37; (with_reducible refine (below_c _ _ _ _ _ _ _ _ _ _ _ _ _ _ _ _ _ _ _ _ _ hkux _).mono ?_); rintro e w13 ⟨rfl, hb13⟩; rw [hbx.out]; replace hS := S8.below hS hb13) | (go_at_call 37; (with_reducible refine (below_c _ _ _ _ _ _ _ _ _ _ _ _ _ _ _ _ _ _ _ _ _ hkuy _).mono ?_); rintro e w13 ⟨rfl, hb13⟩; rw [hby.out]; replace hS := S8.below hS hb13))
          go_meet
          case rel => exact ⟨by simp, hS⟩
        · have FC := FA.out.2 rfl
          have FC1 := Lib.hid FC.1
          have FC2 := Lib.hid FC.2.1
          have FC3 := Lib.hid FC.2.2
          clear FC
          go_wp2_with (first | (go_at_call 25; (with_reducible refine (sameRef_b _ _ _ _ _ _ _ _ _ _ _ _ _ _ _ _ _ _ _ _ _ _ FC1 FC2 _).mono ?_); rintro e w13 ⟨rfl, hb13⟩; rw [FC3.out]; replace hS := S8.below hS hb13) | (go_at_call 37; (with_reducible refine (below_c _ _ _ _ _ _ _ _ _ _ _ _ _ _ _ _ _ _ _ _ _ hkux _).mono ?_); rintro e w13 ⟨rfl, hb13⟩; rw [hbx.out]; replace hS := S8.below hS hb13) | (go_at_call 37; (with_reducible refine (below_c _ _ _ _ _ _ _ _ _ _ _ _ _ _ _ _ _ _ _ _ _ hkuy _).mono ?_); rintro e w13 ⟨rfl, hb13⟩; rw [hby.out]; replace hS := S8.below hS hb13))
          go_meet
          case rel => exact ⟨by simp, hS⟩
    case rest =>
      obtain ⟨rfl, hS⟩ := hcut
      go_upto_region 13 with fail
      obtain ⟨sg, hsg⟩ : ∃ b, Hid (one zk zl zh za = b) := ⟨_, rfl⟩
      go_cut [154] (fun s154 wx => s154 = .bool false ∧ (S8 w w.heap.size (w.heap.size + 1) (w.heap.size + 1 + 1) w7.heap.size w8.heap.size w9.heap.size w11.heap.size w12.heap.size #[.int .i64 xk, .int .i64 xl, .int .i64 xh, .string xs, .bool xa, .bool xm, .bool false, .slice xf 0 xc] #[.int .i64 yk, .int .i64 yl, .int .i64 yh, .string ys, .bool ya, .bool ym, .bool false, .slice yf 0 yc] #[.int .i64 zk, .int .i64 zl, .int .i64 zh, .string zs, .bool za, .bool zm, .bool false, .slice zf 0 zc] #[.int .i64 uk, .int .i64 ul, .int .i64 uh, .string us, .bool ua, .bool um, .bool false, .slice none 0 0] #[.int .i64 vk, .int .i64 vl, .int .i64 vh, .string vs, .bool va, .bool vm, .bool false, .slice none 0 0] #[.int .i64 pk, .int .i64 pl, .int .i64 ph, .string ps, .bool pa, .bool pm, .bool false, .slice none 0 0] #[.int .i64 rk, .int .i64 rl, .int .i64 rh, .string rs, .bool ra, .bool rm, .bool false, .slice none 0 0] #[.int .i64 ik, .int .i64 il, .int .i64 ih, .string is, .bool ia, .bool im, .bool false, .slice none 0 0]) wx)
      case first =>
        cases sg
        · refine wp_region_held_drew (S := (S8 w w.heap.size (w.heap.size + 1) (w.heap.size + 1 + 1) w7.heap.size w8.heap.size w9.heap.size w11.heap.size w12.heap.size #[.int .i64 xk, .int .i64 xl, .int .i64 xh, .string xs, .bool xa, .bool xm, .bool false, .slice xf 0 xc] #[.int .i64 yk, .int .i64 yl, .int .i64 yh, .string ys, .bool ya, .bool ym, .bool false, .slice yf 0 yc] #[.int .i64 zk, .int .i64 zl, .int .i64 zh, .string zs, .bool za, .bool zm, .bool false, .slice zf 0 zc] #[.int .i64 uk, .int .i64 ul, .int .i64 uh, .string us, .bool ua, .bool um, .bool false, .slice none 0 0] #[.int .i64 vk, .int .i64 vl, .int .i64 vh, .string vs, .bool va, .bool vm, .bool false, .slice none 0 0] #[.int .i64 pk, .int .i64 pl, .int .i64 ph, .string ps, .bool pa, .bool pm, .bool false, .slice none 0 0] #[.int .i64 rk, .int .i64 rl, .int .i64 rh, .string rs, .bool ra, .bool rm, .bool false, .slice none 0 0] #[.int .i64 ik, .int .i64 il, .int .i64 ih, .string is, .bool ia, .bool im, .bool false, .slice none 0 0])) (by kernel_rfl) ?_ (fun hH => ?_)
          · (first | (with_reducible assumption) | (with_reducible exact S8.drew (by assumption)) | (with_reducible exact S8.below (by assumption) (by assumption)))
          refine wpAnyH_take (i := 0) (v := ?_) rfl (by kernel_rfl) (by kernel_rfl) (by kernel_rfl) (fun _ _ _ h => h) (Or.inl ⟨by rfl, ?_⟩) (by assumption) ?_
          rotate_left; focus (intro w hSw; (try dsimp only at hSw); go_simp; try with_reducible rfl)
          (try simp only [List.getElem_toArray, List.getElem_cons_succ, List.getElem_cons_zero, Act.put, List.setIfInBounds_toArray, List.set_cons_zero, List.set_cons_succ])
          refine wpAnyH_ready (rs := [1]) (by kernel_rfl) (by simp) ?_
          refine AllReadyH.cons rfl (fun K hK => ?_) ?_
          · go_simp
            go_at_call 23
            (with_reducible refine (single_b _ _ _ _ _ _ _ _ _ _ _ hsg _).mono ?_)
            rintro e w6 ⟨rfl, hb6⟩
            go_wp2_with fail
            refine hK.out _ _ ?_ (fun hH2 => ?_)
            · (first | (with_reducible assumption) | (with_reducible exact S8.drew (by assumption)) | (with_reducible exact S8.below (by assumption) (by assumption)))
            clear hK K hH
            have hH := hH2; clear hH2
            (try simp only [List.getElem_toArray, List.getElem_cons_succ, List.getElem_cons_zero, Act.put, List.setIfInBounds_toArray, List.set_cons_zero, List.set_cons_succ])
            refine wpAnyH_take (i := 2) (v := ?_) rfl (by kernel_rfl) (by kernel_rfl) (by kernel_rfl) (fun _ _ _ h => h) (Or.inl ⟨by rfl, ?_⟩) (by assumption) ?_
            rotate_left; focus (intro w hSw; (try dsimp only at hSw); go_simp; try with_reducible rfl)
            (try simp only [List.getElem_toArray, List.getElem_cons_succ, List.getElem_cons_zero, Act.put, List.setIfInBounds_toArray, List.set_cons_zero, List.set_cons_succ])
            refine wpAnyH_take (i := 3) (v := undef) rfl (by kernel_rfl) (by kernel_rfl) (by kernel_rfl) (fun _ _ _ h => h) (Or.inr ⟨by rfl, rfl⟩) (by assumption) ?_
            (try simp only [List.getElem_toArray, List.getElem_cons_succ, List.getElem_cons_zero, Act.put, List.setIfInBounds_toArray, List.set_cons_zero, List.set_cons_succ])
            refine wpAnyH_take (i := 4) (v := undef) rfl (by kernel_rfl) (by kernel_rfl) (by kernel_rfl) (fun _ _ _ h => h) (Or.inr ⟨by rfl, rfl⟩) (by assumption) ?_
            (try simp only [List.getElem_toArray, List.getElem_cons_succ, List.getElem_cons_zero, Act.put, List.setIfInBounds_toArray, List.set_cons_zero, List.set_cons_succ])
            refine wpAnyH_take (i := 5) (v := undef) rfl (by kernel_rfl) (by kernel_rfl) (by kernel_rfl) (fun _ _ _ h => h) (Or.inr ⟨by rfl, rfl⟩) (by assumption) ?_
            (try simp only [List.getElem_toArray, List.getElem_cons_succ, List.getElem_cons_zero, Act.put, List.setIfInBounds_toArray, List.set_cons_zero, List.set_cons_succ])
            refine wpAnyH_take (i := 6) (v := undef) rfl (by kernel_rfl) (by kernel_rfl) (by kernel_rfl) (fun _ _ _ h => h) (Or.inr ⟨by rfl, rfl⟩) (by assumption) ?_
            (try simp only [List.getElem_toArray, List.getElem_cons_succ, List.getElem_cons_zero, Act.put, List.setIfInBounds_toArray, List.set_cons_zero, List.set_cons_succ])
            refine wpAnyH_take (i := 7) (v := undef) rfl (by kernel_rfl) (by kernel_rfl) (by kernel_rfl) (fun _ _ _ h => h) (Or.inr ⟨by rfl, rfl⟩) (by assumption) ?_
            (try simp only [List.getElem_toArray, List.getElem_cons_succ, List.getElem_cons_zero, Act.put, List.setIfInBounds_toArray, List.set_cons_zero, List.set_cons_succ])
            refine wpAnyH_take (i := 8) (v := undef) rfl (by kernel_rfl) (by kernel_rfl) (by kernel_rfl) (fun _ _ _ h => h) (Or.inr ⟨by rfl, rfl⟩) (by assumption) ?_
            (try simp only [List.getElem_toArray, List.getElem_cons_succ, List.getElem_cons_zero, Act.put, List.setIfInBounds_toArray, List.set_cons_zero, List.set_cons_succ])
            refine wpAnyH_take (i := 9) (v := undef) rfl (by kernel_rfl) (by kernel_rfl) (by kernel_rfl) (fun _ _ _ h => h) (Or.inr ⟨by rfl, rfl⟩) (by assumption) ?_
            (try simp only [List.getElem_toArray, List.getElem_cons_succ, List.getElem_cons_zero, Act.put, List.setIfInBounds_toArray, List.set_cons_zero, List.set_cons_succ])
            refine wpAnyH_take (i := 10) (v := undef) rfl (by kernel_rfl) (by kernel_rfl) (by kernel_rfl) (fun _ _ _ h => h) (Or.inr ⟨by rfl, rfl⟩) (by assumption) ?_
            (try simp only [List.getElem_toArray, List.getElem_cons_succ, List.getElem_cons_zero, Act.put, List.setIfInBounds_toArray, List.set_cons_zero, List.set_cons_succ])
            refine wpAnyH_take (i := 11) (v := undef) rfl (by kernel_rfl) (by kernel_rfl) (by kernel_rfl) (fun _ _ _ h => h) (Or.inr ⟨by rfl, rfl⟩) (by assumption) ?_
            (try simp only [List.getElem_toArray, List.getElem_cons_succ, List.getElem_cons_zero, Act.put, List.setIfInBounds_toArray, List.set_cons_zero, List.set_cons_succ])
            refine wpAnyH_take (i := 12) (v := undef) rfl (by kernel_rfl) (by kernel_rfl) (by kernel_rfl) (fun _ _ _ h => h) (Or.inr ⟨by rfl, rfl⟩) (by assumption) ?_
            (try simp only [List.getElem_toArray, List.getElem_cons_succ, List.getElem_cons_zero, Act.put, List.setIfInBounds_toArray, List.set_cons_zero, List.set_cons_succ])
            refine wpAnyH_take (i := 13) (v := undef) rfl (by kernel_rfl) (by kernel_rfl) (by kernel_rfl) (fun _ _ _ h => h) (Or.inr ⟨by rfl, rfl⟩) (by assumption) ?_
            (try simp only [List.getElem_toArray, List.getElem_cons_succ, List.getElem_cons_zero, Act.put, List.setIfInBounds_toArray, List.set_cons_zero, List.set_cons_succ])
            refine wpAnyH_take (i := 14) (v := undef) rfl (by kernel_rfl) (by kernel_rfl) (by kernel_rfl) (fun _ _ _ h => h) (Or.inr ⟨by rfl, rfl⟩) (by assumption) ?_
            (try simp only [List.getElem_toArray, List.getElem_cons_succ, List.getElem_cons_zero, Act.put, List.setIfInBounds_toArray, List.set_cons_zero, List.set_cons_succ])
            refine wpAnyH_take (i := 15) (v := undef) rfl (by kernel_rfl) (by kernel_rfl) (by kernel_rfl) (fun _ _ _ h => h) (Or.inr ⟨by rfl, rfl⟩) (by assumption) ?_
            (try simp only [List.getElem_toArray, List.getElem_cons_succ, List.getElem_cons_zero, Act.put, List.setIfInBounds_toArray, List.set_cons_zero, List.set_cons_succ])
            refine wpAnyH_take (i := 16) (v := undef) rfl (by kernel_rfl) (by kernel_rfl) (by kernel_rfl) (fun _ _ _ h => h) (Or.inr ⟨by rfl, rfl⟩) (by assumption) ?_
            (try simp only [List.getElem_toArray, List.getElem_cons_succ, List.getElem_cons_zero, Act.put, List.setIfInBounds_toArray, List.set_cons_zero, List.set_cons_succ])
            refine wpAnyH_take (i := 17) (v := undef) rfl (by kernel_rfl) (by kernel_rfl) (by kernel_rfl) (fun _ _ _ h => h) (Or.inr ⟨by rfl, rfl⟩) (by assumption) ?_
            (try simp only [List.getElem_toArray, List.getElem_cons_succ, List.getElem_cons_zero, Act.put, List.setIfInBounds_toArray, List.set_cons_zero, List.set_cons_succ])
            refine wpAnyH_take (i := 18) (v := ?_) rfl (by kernel_rfl) (by kernel_rfl) (by kernel_rfl) (fun _ _ _ h => h) (Or.inl ⟨by rfl, ?_⟩) (by assumption) ?_
            rotate_left; focus (intro w hSw; (try dsimp only at hSw); go_simp; try with_reducible rfl)
            (try simp only [List.getElem_toArray, List.getElem_cons_succ, List.getElem_cons_zero, Act.put, List.setIfInBounds_toArray, List.set_cons_zero, List.set_cons_succ])
            refine wpAnyH_done (by kernel_rfl) ?_ _
            go_wp2_with fail
            go_meet
            case rel => exact ⟨by simp, hH⟩
          exact AllReadyH.nil
        · have FH := fact_has ok1 hr1.out hr2.out hr3.out hsg.out hk1.out hmu.out
          obtain ⟨bx, hhx⟩ : ∃ b, Hid (has uk ul uh us ua zk zl zs = b) := ⟨_, rfl⟩
          obtain ⟨ba, hha⟩ : ∃ b, Hid (has xk xl xh xs xa zk zl zs = b) := ⟨_, rfl⟩
          obtain ⟨bb, hhb⟩ : ∃ b, Hid (has yk yl yh ys ya zk zl zs = b) := ⟨_, rfl⟩
          rw [hhx.out, hha.out, hhb.out] at FH
          cases ok1 <;> cases ba <;> simp only [Bool.true_and, Bool.false_and] at FH
          · refine wp_region_held_drew (S := (S8 w w.heap.size (w.heap.size + 1) (w.heap.size + 1 + 1) w7.heap.size w8.heap.size w9.heap.size w11.heap.size w12.heap.size #[.int .i64 xk, .int .i64 xl, .int .i64 xh, .string xs, .bool xa, .bool xm, .bool false, .slice xf 0 xc] #[.int .i64 yk, .int .i64 yl, .int .i64 yh, .string ys, .bool ya, .bool ym, .bool false, .slice yf 0 yc] #[.int .i64 zk, .int .i64 zl, .int .i64 zh, .string zs, .bool za, .bool zm, .bool false, .slice zf 0 zc] #[.int .i64 uk, .int .i64 ul, .int .i64 uh, .string us, .bool ua, .bool um, .bool false, .slice none 0 0] #[.int .i64 vk, .int .i64 vl, .int .i64 vh, .string vs, .bool va, .bool vm, .bool false, .slice none 0 0] #[.int .i64 pk, .int .i64 pl, .int .i64 ph, .string ps, .bool pa, .bool pm, .bool false, .slice none 0 0] #[.int .i64 rk, .int .i64 rl, .int .i64 rh, .string rs, .bool ra, .bool rm, .bool false, .slice none 0 0] #[.int .i64 ik, .int .i64 il, .int .i64 ih, .string is, .bool ia, .bool im, .bool false, .slice none 0 0])) (by kernel_rfl) ?_ (fun hH => ?_)
            · (first | (with_reducible assumption) | (with_reducible exact S8.drew (by assumption)) | (with_reducible exact S8.below (by assumption) (by assumption)))
            refine wpAnyH_take (i := 0) (v := ?_) rfl (by kernel_rfl) (by kernel_rfl) (by kernel_rfl) (fun _ _ _ h => h) (Or.inl ⟨by rfl, ?_⟩) (by assumption) ?_
            rotate_left; focus (intro w hSw; (try dsimp only at hSw); go_simp; try with_reducible rfl)
            (try simp only [List.getElem_toArray, List.getElem_cons_succ, List.getElem_cons_zero, Act.put, List.setIfInBounds_toArray, List.set_cons_zero, List.set_cons_succ])
            refine wpAnyH_ready (rs := [1]) (by kernel_rfl) (by simp) ?_
            refine AllReadyH.cons rfl (fun K hK => ?_) ?_
            · go_simp
              go_at_call 23
              (with_reducible refine (single_b _ _ _ _ _ _ _ _ _ _ _ hsg _).mono ?_)
              rintro e w6 ⟨rfl, hb6⟩
              go_wp2_with fail
              refine hK.out _ _ ?_ (fun hH2 => ?_)
              · (first | (with_reducible assumption) | (with_reducible exact S8.drew (by assumption)) | (with_reducible exact S8.below (by assumption) (by assumption)))
              clear hK K hH
              have hH := hH2; clear hH2
              (try simp only [List.getElem_toArray, List.getElem_cons_succ, List.getElem_cons_zero, Act.put, List.setIfInBounds_toArray, List.set_cons_zero, List.set_cons_succ])
              refine wpAnyH_take (i := 2) (v := ?_) rfl (by kernel_rfl) (by kernel_rfl) (by kernel_rfl) (fun _ _ _ h => h) (Or.inl ⟨by rfl, ?_⟩) (by assumption) ?_
              rotate_left; focus (intro w hSw; (try dsimp only at hSw); go_simp; try with_reducible rfl)
              (try simp only [List.getElem_toArray, List.getElem_cons_succ, List.getElem_cons_zero, Act.put, List.setIfInBounds_toArray, List.set_cons_zero, List.set_cons_succ])
              refine wpAnyH_take (i := 3) (v := ?_) rfl (by kernel_rfl) (by kernel_rfl) (by kernel_rfl) (fun _ _ _ h => h) (Or.inl ⟨by rfl, ?_⟩) (by assumption) ?_
              rotate_left; focus (intro w hSw; (try dsimp only at hSw); go_simp; try with_reducible rfl)
              (try simp only [List.getElem_toArray, List.getElem_cons_succ, List.getElem_cons_zero, Act.put, List.setIfInBounds_toArray, List.set_cons_zero, List.set_cons_succ])
              refine wpAnyH_take (i := 4) (v := ?_) rfl (by kernel_rfl) (by kernel_rfl) (by kernel_rfl) (fun _ _ _ h => h) (Or.inl ⟨by rfl, ?_⟩) (by assumption) ?_
              rotate_left; focus (intro w hSw; (try dsimp only at hSw); go_simp; try with_reducible rfl)
              (try simp only [List.getElem_toArray, List.getElem_cons_succ, List.getElem_cons_zero, Act.put, List.setIfInBounds_toArray, List.set_cons_zero, List.set_cons_succ])
              refine wpAnyH_take (i := 5) (v := undef) rfl (by kernel_rfl) (by kernel_rfl) (by kernel_rfl) (fun _ _ _ h => h) (Or.inr ⟨by rfl, rfl⟩) (by assumption) ?_
              (try simp only [List.getElem_toArray, List.getElem_cons_succ, List.getElem_cons_zero, Act.put, List.setIfInBounds_toArray, List.set_cons_zero, List.set_cons_succ])
              refine wpAnyH_take (i := 6) (v := undef) rfl (by kernel_rfl) (by kernel_rfl) (by kernel_rfl) (fun _ _ _ h => h) (Or.inr ⟨by rfl, rfl⟩) (by assumption) ?_
              (try simp only [List.getElem_toArray, List.getElem_cons_succ, List.getElem_cons_zero, Act.put, List.setIfInBounds_toArray, List.set_cons_zero, List.set_cons_succ])
              refine wpAnyH_take (i := 7) (v := undef) rfl (by kernel_rfl) (by kernel_rfl) (by kernel_rfl) (fun _ _ _ h => h) (Or.inr ⟨by rfl, rfl⟩) (by assumption) ?_
              (try simp only [List.getElem_toArray, List.getElem_cons_succ, List.getElem_cons_zero, Act.put, List.setIfInBounds_toArray, List.set_cons_zero, List.set_cons_succ])
              refine wpAnyH_take (i := 8) (v := ?_) rfl (by kernel_rfl) (by kernel_rfl) (by kernel_rfl) (fun _ _ _ h => h) (Or.inl ⟨by rfl, ?_⟩) (by assumption) ?_
              rotate_left; focus (intro w hSw; (try dsimp only at hSw); go_simp; try with_reducible rfl)
              (try simp only [List.getElem_toArray, List.getElem_cons_succ, List.getElem_cons_zero, Act.put, List.setIfInBounds_toArray, List.set_cons_zero, List.set_cons_succ])
              refine wpAnyH_take (i := 9) (v := ?_) rfl (by kernel_rfl) (by kernel_rfl) (by kernel_rfl) (fun _ _ _ h => h) (Or.inl ⟨by rfl, ?_⟩) (by assumption) ?_
              rotate_left; focus (intro w hSw; (try dsimp only at hSw); go_simp; try with_reducible rfl)
              (try simp only [List.getElem_toArray, List.getElem_cons_succ, List.getElem_cons_zero, Act.put, List.setIfInBounds_toArray, List.set_cons_zero, List.set_cons_succ])
              refine wpAnyH_take (i := 10) (v := ?_) rfl (by kernel_rfl) (by kernel_rfl) (by kernel_rfl) (fun _ _ _ h => h) (Or.inl ⟨by rfl, ?_⟩) (by assumption) ?_
              rotate_left; focus (intro w hSw; (try dsimp only at hSw); go_simp; try with_reducible rfl)
              (try simp only [List.getElem_toArray, List.getElem_cons_succ, List.getElem_cons_zero, Act.put, List.setIfInBounds_toArray, List.set_cons_zero, List.set_cons_succ])
              refine wpAnyH_ready (rs := [11]) (by kernel_rfl) (by simp) ?_
              refine AllReadyH.cons rfl (fun K hK => ?_) ?_
              · go_simp
                go_at_call 39
                (first | (with_reducible refine (has_c _ _ _ _ _ _ _ _ _ _ _ _ _ _ _ _ _ _ _ _ _ hhx _).mono ?_) | (with_reducible refine (has_c _ _ _ _ _ _ _ _ _ _ _ _ _ _ _ _ _ _ _ _ _ hha _).mono ?_) | (with_reducible refine (has_c _ _ _ _ _ _ _ _ _ _ _ _ _ _ _ _ _ _ _ _ _ hhb _).mono ?_))
                rintro e w6 ⟨rfl, hb6⟩
                go_wp2_with fail
                refine hK.out _ _ ?_ (fun hH2 => ?_)
                · (first | (with_reducible assumption) | (with_reducible exact S8.drew (by assumption)) | (with_reducible exact S8.below (by assumption) (by assumption)))
                clear hK K hH
                have hH := hH2; clear hH2
                (try simp only [List.getElem_toArray, List.getElem_cons_succ, List.getElem_cons_zero, Act.put, List.setIfInBounds_toArray, List.set_cons_zero, List.set_cons_succ])
                refine wpAnyH_take (i := 12) (v := ?_) rfl (by kernel_rfl) (by kernel_rfl) (by kernel_rfl) (fun _ _ _ h => h) (Or.inl ⟨by rfl, ?_⟩) (by assumption) ?_
                rotate_left; focus (intro w hSw; (try dsimp only at hSw); go_simp; try with_reducible rfl)
                (try simp only [List.getElem_toArray, List.getElem_cons_succ, List.getElem_cons_zero, Act.put, List.setIfInBounds_toArray, List.set_cons_zero, List.set_cons_succ])
                refine wpAnyH_take (i := 13) (v := undef) rfl (by kernel_rfl) (by kernel_rfl) (by kernel_rfl) (fun _ _ _ h => h) (Or.inr ⟨by rfl, rfl⟩) (by assumption) ?_
                (try simp only [List.getElem_toArray, List.getElem_cons_succ, List.getElem_cons_zero, Act.put, List.setIfInBounds_toArray, List.set_cons_zero, List.set_cons_succ])
                refine wpAnyH_take (i := 14) (v := undef) rfl (by kernel_rfl) (by kernel_rfl) (by kernel_rfl) (fun _ _ _ h => h) (Or.inr ⟨by rfl, rfl⟩) (by assumption) ?_
                (try simp only [List.getElem_toArray, List.getElem_cons_succ, List.getElem_cons_zero, Act.put, List.setIfInBounds_toArray, List.set_cons_zero, List.set_cons_succ])
                refine wpAnyH_take (i := 15) (v := undef) rfl (by kernel_rfl) (by kernel_rfl) (by kernel_rfl) (fun _ _ _ h => h) (Or.inr ⟨by rfl, rfl⟩) (by assumption) ?_
                (try simp only [List.getElem_toArray, List.getElem_cons_succ, List.getElem_cons_zero, Act.put, List.setIfInBounds_toArray, List.set_cons_zero, List.set_cons_succ])
                refine wpAnyH_take (i := 16) (v := ?_) rfl (by kernel_rfl) (by kernel_rfl) (by kernel_rfl) (fun _ _ _ h => h) (Or.inl ⟨by rfl, ?_⟩) (by assumption) ?_
                rotate_left; focus (intro w hSw; (try dsimp only at hSw); go_simp; try with_reducible rfl)
                (try simp only [List.getElem_toArray, List.getElem_cons_succ, List.getElem_cons_zero, Act.put, List.setIfInBounds_toArray, List.set_cons_zero, List.set_cons_succ])
                refine wpAnyH_take (i := 17) (v := ?_) rfl (by kernel_rfl) (by kernel_rfl) (by kernel_rfl) (fun _ _ _ h => h) (Or.inl ⟨by rfl, ?_⟩) (by assumption) ?_
                rotate_left; focus (intro w hSw; (try dsimp only at hSw); go_simp; try with_reducible rfl)
                (try simp only [List.getElem_toArray, List.getElem_cons_succ, List.getElem_cons_zero, Act.put, List.setIfInBounds_toArray, List.set_cons_zero, List.set_cons_succ])
                refine wpAnyH_take (i := 18) (v := ?_) rfl (by kernel_rfl) (by kernel_rfl) (by kernel_rfl) (fun _ _ _ h => h) (Or.inl ⟨by rfl, ?_⟩) (by assumption) ?_
                rotate_left; focus (intro w hSw; (try dsimp only at hSw); go_simp; try with_reducible rfl)
                (try simp only [List.getElem_toArray, List.getElem_cons_succ, List.getElem_cons_zero, Act.put, List.setIfInBounds_toArray, List.set_cons_zero, List.set_cons_succ])
                refine wpAnyH_done (by kernel_rfl) ?_ _
                go_wp2_with fail
                go_meet
                case rel => exact ⟨by simp, hH⟩
              exact AllReadyH.nil
            exact AllReadyH.nil
          · subst FH
            refine wp_region_held_drew (S := (S8 w w.heap.size (w.heap.size + 1) (w.heap.size + 1 + 1) w7.heap.size w8.heap.size w9.heap.size w11.heap.size w12.heap.size #[.int .i64 xk, .int .i64 xl, .int .i64 xh, .string xs, .bool xa, .bool xm, .bool false, .slice xf 0 xc] #[.int .i64 yk, .int .i64 yl, .int .i64 yh, .string ys, .bool ya, .bool ym, .bool false, .slice yf 0 yc] #[.int .i64 zk, .int .i64 zl, .int .i64 zh, .string zs, .bool za, .bool zm, .bool false, .slice zf 0 zc] #[.int .i64 uk, .int .i64 ul, .int .i64 uh, .string us, .bool ua, .bool um, .bool false, .slice none 0 0] #[.int .i64 vk, .int .i64 vl, .int .i64 vh, .string vs, .bool va, .bool vm, .bool false, .slice none 0 0] #[.int .i64 pk, .int .i64 pl, .int .i64 ph, .string ps, .bool pa, .bool pm, .bool false, .slice none 0 0] #[.int .i64 rk, .int .i64 rl, .int .i64 rh, .string rs, .bool ra, .bool rm, .bool false, .slice none 0 0] #[.int .i64 ik, .int .i64 il, .int .i64 ih, .string is, .bool ia, .bool im, .bool false, .slice none 0 0])) (by kernel_rfl) ?_ (fun hH => ?_)
            · (first | (with_reducible assumption) | (with_reducible exact S8.drew (by assumption)) | (with_reducible exact S8.below (by assumption) (by assumption)))
            refine wpAnyH_take (i := 0) (v := ?_) rfl (by kernel_rfl) (by kernel_rfl) (by kernel_rfl) (fun _ _ _ h => h) (Or.inl ⟨by rfl, ?_⟩) (by assumption) ?_
            rotate_left; focus (intro w hSw; (try dsimp only at hSw); go_simp; try with_reducible rfl)
            (try simp only [List.getElem_toArray, List.getElem_cons_succ, List.getElem_cons_zero, Act.put, List.setIfInBounds_toArray, List.set_cons_zero, List.set_cons_succ])
            refine wpAnyH_ready (rs := [1]) (by kernel_rfl) (by simp) ?_
            refine AllReadyH.cons rfl (fun K hK => ?_) ?_
            · go_simp
              go_at_call 23
              (with_reducible refine (single_b _ _ _ _ _ _ _ _ _ _ _ hsg _).mono ?_)
              rintro e w6 ⟨rfl, hb6⟩
              go_wp2_with fail
              refine hK.out _ _ ?_ (fun hH2 => ?_)
              · (first | (with_reducible assumption) | (with_reducible exact S8.drew (by assumption)) | (with_reducible exact S8.below (by assumption) (by assumption)))
              clear hK K hH
              have hH := hH2; clear hH2
              (try simp only [List.getElem_toArray, List.getElem_cons_succ, List.getElem_cons_zero, Act.put, List.setIfInBounds_toArray, List.set_cons_zero, List.set_cons_succ])
              refine wpAnyH_take (i := 2) (v := ?_) rfl (by kernel_rfl) (by kernel_rfl) (by kernel_rfl) (fun _ _ _ h => h) (Or.inl ⟨by rfl, ?_⟩) (by assumption) ?_
              rotate_left; focus (intro w hSw; (try dsimp only at hSw); go_simp; try with_reducible rfl)
              (try simp only [List.getElem_toArray, List.getElem_cons_succ, List.getElem_cons_zero, Act.put, List.setIfInBounds_toArray, List.set_cons_zero, List.set_cons_succ])
              refine wpAnyH_take (i := 3) (v := ?_) rfl (by kernel_rfl) (by kernel_rfl) (by kernel_rfl) (fun _ _ _ h => h) (Or.inl ⟨by rfl, ?_⟩) (by assumption) ?_
              rotate_left; focus (intro w hSw; (try dsimp only at hSw); go_simp; try with_reducible rfl)
              (try simp only [List.getElem_toArray, List.getElem_cons_succ, List.getElem_cons_zero, Act.put, List.setIfInBounds_toArray, List.set_cons_zero, List.set_cons_succ])
              refine wpAnyH_take (i := 4) (v := ?_) rfl (by kernel_rfl) (by kernel_rfl) (by kernel_rfl) (fun _ _ _ h => h) (Or.inl ⟨by rfl, ?_⟩) (by assumption) ?_
              rotate_left; focus (intro w hSw; (try dsimp only at hSw); go_simp; try with_reducible rfl)
              (try simp only [List.getElem_toArray, List.getElem_cons_succ, List.getElem_cons_zero, Act.put, List.setIfInBounds_toArray, List.set_cons_zero, List.set_cons_succ])
              refine wpAnyH_take (i := 5) (v := undef) rfl (by kernel_rfl) (by kernel_rfl) (by kernel_rfl) (fun _ _ _ h => h) (Or.inr ⟨by rfl, rfl⟩) (by assumption) ?_
              (try simp only [List.getElem_toArray, List.getElem_cons_succ, List.getElem_cons_zero, Act.put, List.setIfInBounds_toArray, List.set_cons_zero, List.set_cons_succ])
              refine wpAnyH_take (i := 6) (v := undef) rfl (by kernel_rfl) (by kernel_rfl) (by kernel_rfl) (fun _ _ _ h => h) (Or.inr ⟨by rfl, rfl⟩) (by assumption) ?_
              (try simp only [List.getElem_toArray, List.getElem_cons_succ, List.getElem_cons_zero, Act.put, List.setIfInBounds_toArray, List.set_cons_zero, List.set_cons_succ])
              refine wpAnyH_take (i := 7) (v := undef) rfl (by kernel_rfl) (by kernel_rfl) (by kernel_rfl) (fun _ _ _ h => h) (Or.inr ⟨by rfl, rfl⟩) (by assumption) ?_
              (try simp only [List.getElem_toArray, List.getElem_cons_succ, List.getElem_cons_zero, Act.put, List.setIfInBounds_toArray, List.set_cons_zero, List.set_cons_succ])
              refine wpAnyH_take (i := 8) (v := ?_) rfl (by kernel_rfl) (by kernel_rfl) (by kernel_rfl) (fun _ _ _ h => h) (Or.inl ⟨by rfl, ?_⟩) (by assumption) ?_
              rotate_left; focus (intro w hSw; (try dsimp only at hSw); go_simp; try with_reducible rfl)
              (try simp only [List.getElem_toArray, List.getElem_cons_succ, List.getElem_cons_zero, Act.put, List.setIfInBounds_toArray, List.set_cons_zero, List.set_cons_succ])
              refine wpAnyH_take (i := 9) (v := ?_) rfl (by kernel_rfl) (by kernel_rfl) (by kernel_rfl) (fun _ _ _ h => h) (Or.inl ⟨by rfl, ?_⟩) (by assumption) ?_
              rotate_left; focus (intro w hSw; (try dsimp only at hSw); go_simp; try with_reducible rfl)
              (try simp only [List.getElem_toArray, List.getElem_cons_succ, List.getElem_cons_zero, Act.put, List.setIfInBounds_toArray, List.set_cons_zero, List.set_cons_succ])
              refine wpAnyH_take (i := 10) (v := ?_) rfl (by kernel_rfl) (by kernel_rfl) (by kernel_rfl) (fun _ _ _ h => h) (Or.inl ⟨by rfl, ?_⟩) (by assumption) ?_
              rotate_left; focus (intro w hSw; (try dsimp only at hSw); go_simp; try with_reducible rfl)
              (try simp only [List.getElem_toArray, List.getElem_cons_succ, List.getElem_cons_zero, Act.put, List.setIfInBounds_toArray, List.set_cons_zero, List.set_cons_succ])
              refine wpAnyH_ready (rs := [11]) (by kernel_rfl) (by simp) ?_
              refine AllReadyH.cons rfl (fun K hK => ?_) ?_
              · go_simp
                go_at_call 39
                (first | (with_reducible refine (has_c _ _ _ _ _ _ _ _ _ _ _ _ _ _ _ _ _ _ _ _ _ hhx _).mono ?_) | (with_reducible refine (has_c _ _ _ _ _ _ _ _ _ _ _ _ _ _ _ _ _ _ _ _ _ hha _).mono ?_) | (with_reducible refine (has_c _ _ _ _ _ _ _ _ _ _ _ _ _ _ _ _ _ _ _ _ _ hhb _).mono ?_))
                rintro e w6 ⟨rfl, hb6⟩
                go_wp2_with fail
                refine hK.out _ _ ?_ (fun hH2 => ?_)
                · (first | (with_reducible assumption) | (with_reducible exact S8.drew (by assumption)) | (with_reducible exact S8.below (by assumption) (by assumption)))
                clear hK K hH
                have hH := hH2; clear hH2
                (try simp only [List.getElem_toArray, List.getElem_cons_succ, List.getElem_cons_zero, Act.put, List.setIfInBounds_toArray, List.set_cons_zero, List.set_cons_succ])
                refine wpAnyH_take (i := 12) (v := ?_) rfl (by kernel_rfl) (by kernel_rfl) (by kernel_rfl) (fun _ _ _ h => h) (Or.inl ⟨by rfl, ?_⟩) (by assumption) ?_
                rotate_left; focus (intro w hSw; (try dsimp only at hSw); go_simp; try with_reducible rfl)
                (try simp only [List.getElem_toArray, List.getElem_cons_succ, List.getElem_cons_zero, Act.put, List.setIfInBounds_toArray, List.set_cons_zero, List.set_cons_succ])
                refine wpAnyH_take (i := 13) (v := ?_) rfl (by kernel_rfl) (by kernel_rfl) (by kernel_rfl) (fun _ _ _ h => h) (Or.inl ⟨by rfl, ?_⟩) (by assumption) ?_
                rotate_left; focus (intro w hSw; (try dsimp only at hSw); go_simp; try with_reducible rfl)
                (try simp only [List.getElem_toArray, List.getElem_cons_succ, List.getElem_cons_zero, Act.put, List.setIfInBounds_toArray, List.set_cons_zero, List.set_cons_succ])
                refine wpAnyH_take (i := 14) (v := ?_) rfl (by kernel_rfl) (by kernel_rfl) (by kernel_rfl) (fun _ _ _ h => h) (Or.inl ⟨by rfl, ?_⟩) (by assumption) ?_
                rotate_left; focus (intro w hSw; (try dsimp only at hSw); go_simp; try with_reducible rfl)
                (try simp only [List.getElem_toArray, List.getElem_cons_succ, List.getElem_cons_zero, Act.put, List.setIfInBounds_toArray, List.set_cons_zero, List.set_cons_succ])
                refine wpAnyH_ready (rs := [15]) (by kernel_rfl) (by simp) ?_
                refine AllReadyH.cons rfl (fun K hK => ?_) ?_
                · go_simp
                  go_at_call 39
                  (first | (with_reducible refine (has_c _ _ _ _ _ _ _ _ _ _ _ _ _ _ _ _ _ _ _ _ _ hhx _).mono ?_) | (with_reducible refine (has_c _ _ _ _ _ _ _ _ _ _ _ _ _ _ _ _ _ _ _ _ _ hha _).mono ?_) | (with_reducible refine (has_c _ _ _ _ _ _ _ _ _ _ _ _ _ _ _ _ _ _ _ _ _ hhb _).mono ?_))
                  rintro e w6 ⟨rfl, hb6⟩
                  go_wp2_with fail
                  refine hK.out _ _ ?_ (fun hH2 => ?_)
                  · (first | (with_reducible assumption) | (with_reducible exact S8.drew (by assumption)) | (with_reducible exact S8.below (by assumption) (by assumption)))
                  clear hK K hH
                  have hH := hH2; clear hH2
                  (try simp only [List.getElem_toArray, List.getElem_cons_succ, List.getElem_cons_zero, Act.put, List.setIfInBounds_toArray, List.set_cons_zero, List.set_cons_succ])
                  refine wpAnyH_take (i := 16) (v := ?_) rfl (by kernel_rfl) (by kernel_rfl) (by kernel_rfl) (fun _ _ _ h => h) (Or.inl ⟨by rfl, ?_⟩) (by assumption) ?_
                  rotate_left; focus (intro w hSw; (try dsimp only at hSw); go_simp; try with_reducible rfl)
                  (try simp only [List.getElem_toArray, List.getElem_cons_succ, List.getElem_cons_zero, Act.put, List.setIfInBounds_toArray, List.set_cons_zero, List.set_cons_succ])
                  refine wpAnyH_take (i := 17) (v := ?_) rfl (by kernel_rfl) (by kernel_rfl) (by kernel_rfl) (fun _ _ _ h => h) (Or.inl ⟨by rfl, ?_⟩) (by assumption) ?_
                  rotate_left; focus (intro w hSw; (try dsimp only at hSw); go_simp; try with_reducible rfl)
                  (try simp only [List.getElem_toArray, List.getElem_cons_succ, List.getElem_cons_zero, Act.put, List.setIfInBounds_toArray, List.set_cons_zero, List.set_cons_succ])
                  refine wpAnyH_take (i := 18) (v := ?_) rfl (by kernel_rfl) (by kernel_rfl) (by kernel_rfl) (fun _ _ _ h => h) (Or.inl ⟨by rfl, ?_⟩) (by assumption) ?_
                  rotate_left; focus (intro w hSw; (try dsimp only at hSw); go_simp; try with_reducible rfl)
                  (try simp only [List.getElem_toArray, List.getElem_cons_succ, List.getElem_cons_zero, Act.put, List.setIfInBounds_toArray, List.set_cons_zero, List.set_cons_succ])
                  refine wpAnyH_done (by kernel_rfl) ?_ _
                  go_wp2_with fail
                  go_meet
                  case rel => exact ⟨by simp, hH⟩
                exact AllReadyH.nil
              exact AllReadyH.nil
            exact AllReadyH.nil
          · subst FH
            refine wp_region_held_drew (S := (S8 w w.heap.size (w.heap.size + 1) (w.heap.size + 1 + 1) w7.heap.size w8.heap.size w9.heap.size w11.heap.size w12.heap.size #[.int .i64 xk, .int .i64 xl, .int .i64 xh, .string xs, .bool xa, .bool xm, .bool false, .slice xf 0 xc] #[.int .i64 yk, .int .i64 yl, .int .i64 yh, .string ys, .bool ya, .bool ym, .bool false, .slice yf 0 yc] #[.int .i64 zk, .int .i64 zl, .int .i64 zh, .string zs, .bool za, .bool zm, .bool false, .slice zf 0 zc] #[.int .i64 uk, .int .i64 ul, .int .i64 uh, .string us, .bool ua, .bool um, .bool false, .slice none 0 0] #[.int .i64 vk, .int .i64 vl, .int .i64 vh, .string vs, .bool va, .bool vm, .bool false, .slice none 0 0] #[.int .i64 pk, .int .i64 pl, .int .i64 ph, .string ps, .bool pa, .bool pm, .bool false, .slice none 0 0] #[.int .i64 rk, .int .i64 rl, .int .i64 rh, .string rs, .bool ra, .bool rm, .bool false, .slice none 0 0] #[.int .i64 ik, .int .i64 il, .int .i64 ih, .string is, .bool ia, .bool im, .bool false, .slice none 0 0])) (by kernel_rfl) ?_ (fun hH => ?_)
            · (first | (with_reducible assumption) | (with_reducible exact S8.drew (by assumption)) | (with_reducible exact S8.below (by assumption) (by assumption)))
            refine wpAnyH_take (i := 0) (v := ?_) rfl (by kernel_rfl) (by kernel_rfl) (by kernel_rfl) (fun _ _ _ h => h) (Or.inl ⟨by rfl, ?_⟩) (by assumption) ?_
            rotate_left; focus (intro w hSw; (try dsimp only at hSw); go_simp; try with_reducible rfl)
            (try simp only [List.getElem_toArray, List.getElem_cons_succ, List.getElem_cons_zero, Act.put, List.setIfInBounds_toArray, List.set_cons_zero, List.set_cons_succ])
            refine wpAnyH_ready (rs := [1]) (by kernel_rfl) (by simp) ?_
            refine AllReadyH.cons rfl (fun K hK => ?_) ?_
            · go_simp
              go_at_call 23
              (with_reducible refine (single_b _ _ _ _ _ _ _ _ _ _ _ hsg _).mono ?_)
              rintro e w6 ⟨rfl, hb6⟩
              go_wp2_with fail
              refine hK.out _ _ ?_ (fun hH2 => ?_)
              · (first | (with_reducible assumption) | (with_reducible exact S8.drew (by assumption)) | (with_reducible exact S8.below (by assumption) (by assumption)))
              clear hK K hH
              have hH := hH2; clear hH2
              (try simp only [List.getElem_toArray, List.getElem_cons_succ, List.getElem_cons_zero, Act.put, List.setIfInBounds_toArray, List.set_cons_zero, List.set_cons_succ])
              refine wpAnyH_take (i := 2) (v := ?_) rfl (by kernel_rfl) (by kernel_rfl) (by kernel_rfl) (fun _ _ _ h => h) (Or.inl ⟨by rfl, ?_⟩) (by assumption) ?_
              rotate_left; focus (intro w hSw; (try dsimp only at hSw); go_simp; try with_reducible rfl)
              (try simp only [List.getElem_toArray, List.getElem_cons_succ, List.getElem_cons_zero, Act.put, List.setIfInBounds_toArray, List.set_cons_zero, List.set_cons_succ])
              refine wpAnyH_take (i := 3) (v := ?_) rfl (by kernel_rfl) (by kernel_rfl) (by kernel_rfl) (fun _ _ _ h => h) (Or.inl ⟨by rfl, ?_⟩) (by assumption) ?_
              rotate_left; focus (intro w hSw; (try dsimp only at hSw); go_simp; try with_reducible rfl)
              (try simp only [List.getElem_toArray, List.getElem_cons_succ, List.getElem_cons_zero, Act.put, List.setIfInBounds_toArray, List.set_cons_zero, List.set_cons_succ])
              refine wpAnyH_take (i := 4) (v := ?_) rfl (by kernel_rfl) (by kernel_rfl) (by kernel_rfl) (fun _ _ _ h => h) (Or.inl ⟨by rfl, ?_⟩) (by assumption) ?_
              rotate_left; focus (intro w hSw; (try dsimp only at hSw); go_simp; try with_reducible rfl)
              (try simp only [List.getElem_toArray, List.getElem_cons_succ, List.getElem_cons_zero, Act.put, List.setIfInBounds_toArray, List.set_cons_zero, List.set_cons_succ])
              refine wpAnyH_take (i := 5) (v := ?_) rfl (by kernel_rfl) (by kernel_rfl) (by kernel_rfl) (fun _ _ _ h => h) (Or.inl ⟨by rfl, ?_⟩) (by assumption) ?_
              rotate_left; focus (intro w hSw; (try dsimp only at hSw); go_simp; try with_reducible rfl)
              (try simp only [List.getElem_toArray, List.getElem_cons_succ, List.getElem_cons_zero, Act.put, List.setIfInBounds_toArray, List.set_cons_zero, List.set_cons_succ])
              refine wpAnyH_take (i := 6) (v := ?_) rfl (by kernel_rfl) (by kernel_rfl) (by kernel_rfl) (fun _ _ _ h => h) (Or.inl ⟨by rfl, ?_⟩) (by assumption) ?_
              rotate_left; focus (intro w hSw; (try dsimp only at hSw); go_simp; try with_reducible rfl)
              (try simp only [List.getElem_toArray, List.getElem_cons_succ, List.getElem_cons_zero, Act.put, List.setIfInBounds_toArray, List.set_cons_zero, List.set_cons_succ])
              refine wpAnyH_take (i := 9) (v := ?_) rfl (by kernel_rfl) (by kernel_rfl) (by kernel_rfl) (fun _ _ _ h => h) (Or.inl ⟨by rfl, ?_⟩) (by assumption) ?_
              rotate_left; focus (intro w hSw; (try dsimp only at hSw); go_simp; try with_reducible rfl)
              (try simp only [List.getElem_toArray, List.getElem_cons_succ, List.getElem_cons_zero, Act.put, List.setIfInBounds_toArray, List.set_cons_zero, List.set_cons_succ])
              refine wpAnyH_take (i := 10) (v := ?_) rfl (by kernel_rfl) (by kernel_rfl) (by kernel_rfl) (fun _ _ _ h => h) (Or.inl ⟨by rfl, ?_⟩) (by assumption) ?_
              rotate_left; focus (intro w hSw; (try dsimp only at hSw); go_simp; try with_reducible rfl)
              (try simp only [List.getElem_toArray, List.getElem_cons_succ, List.getElem_cons_zero, Act.put, List.setIfInBounds_toArray, List.set_cons_zero, List.set_cons_succ])
              refine wpAnyH_ready (rs := [7]) (by kernel_rfl) (by simp) ?_
              refine AllReadyH.cons rfl (fun K hK => ?_) ?_
              · go_simp
                go_at_call 39
                (first | (with_reducible refine (has_c _ _ _ _ _ _ _ _ _ _ _ _ _ _ _ _ _ _ _ _ _ hhx _).mono ?_) | (with_reducible refine (has_c _ _ _ _ _ _ _ _ _ _ _ _ _ _ _ _ _ _ _ _ _ hha _).mono ?_) | (with_reducible refine (has_c _ _ _ _ _ _ _ _ _ _ _ _ _ _ _ _ _ _ _ _ _ hhb _).mono ?_))
                rintro e w6 ⟨rfl, hb6⟩
                go_wp2_with fail
                refine hK.out _ _ ?_ (fun hH2 => ?_)
                · (first | (with_reducible assumption) | (with_reducible exact S8.drew (by assumption)) | (with_reducible exact S8.below (by assumption) (by assumption)))
                clear hK K hH
                have hH := hH2; clear hH2
                (try simp only [List.getElem_toArray, List.getElem_cons_succ, List.getElem_cons_zero, Act.put, List.setIfInBounds_toArray, List.set_cons_zero, List.set_cons_succ])
                refine wpAnyH_take (i := 8) (v := ?_) rfl (by kernel_rfl) (by kernel_rfl) (by kernel_rfl) (fun _ _ _ h => h) (Or.inl ⟨by rfl, ?_⟩) (by assumption) ?_
                rotate_left; focus (intro w hSw; (try dsimp only at hSw); go_simp; try with_reducible rfl)
                (try simp only [List.getElem_toArray, List.getElem_cons_succ, List.getElem_cons_zero, Act.put, List.setIfInBounds_toArray, List.set_cons_zero, List.set_cons_succ])
                refine wpAnyH_ready (rs := [11]) (by kernel_rfl) (by simp) ?_
                refine AllReadyH.cons rfl (fun K hK => ?_) ?_
                · go_simp
                  go_at_call 39
                  (first | (with_reducible refine (has_c _ _ _ _ _ _ _ _ _ _ _ _ _ _ _ _ _ _ _ _ _ hhx _).mono ?_) | (with_reducible refine (has_c _ _ _ _ _ _ _ _ _ _ _ _ _ _ _ _ _ _ _ _ _ hha _).mono ?_) | (with_reducible refine (has_c _ _ _ _ _ _ _ _ _ _ _ _ _ _ _ _ _ _ _ _ _ hhb _).mono ?_))
                  rintro e w6 ⟨rfl, hb6⟩
                  go_wp2_with fail
                  refine hK.out _ _ ?_ (fun hH2 => ?_)
                  · (first | (with_reducible assumption) | (with_reducible exact S8.drew (by assumption)) | (with_reducible exact S8.below (by assumption) (by assumption)))
                  clear hK K hH
                  have hH := hH2; clear hH2
                  (try simp only [List.getElem_toArray, List.getElem_cons_succ, List.getElem_cons_zero, Act.put, List.setIfInBounds_toArray, List.set_cons_zero, List.set_cons_succ])
                  refine wpAnyH_take (i := 12) (v := ?_) rfl (by kernel_rfl) (by kernel_rfl) (by kernel_rfl) (fun _ _ _ h => h) (Or.inl ⟨by rfl, ?_⟩) (by assumption) ?_
                  rotate_left; focus (intro w hSw; (try dsimp only at hSw); go_simp; try with_reducible rfl)
                  (try simp only [List.getElem_toArray, List.getElem_cons_succ, List.getElem_cons_zero, Act.put, List.setIfInBounds_toArray, List.set_cons_zero, List.set_cons_succ])
                  refine wpAnyH_take (i := 13) (v := undef) rfl (by kernel_rfl) (by kernel_rfl) (by kernel_rfl) (fun _ _ _ h => h) (Or.inr ⟨by rfl, rfl⟩) (by assumption) ?_
                  (try simp only [List.getElem_toArray, List.getElem_cons_succ, List.getElem_cons_zero, Act.put, List.setIfInBounds_toArray, List.set_cons_zero, List.set_cons_succ])
                  refine wpAnyH_take (i := 14) (v := undef) rfl (by kernel_rfl) (by kernel_rfl) (by kernel_rfl) (fun _ _ _ h => h) (Or.inr ⟨by rfl, rfl⟩) (by assumption) ?_
                  (try simp only [List.getElem_toArray, List.getElem_cons_succ, List.getElem_cons_zero, Act.put, List.setIfInBounds_toArray, List.set_cons_zero, List.set_cons_succ])
                  refine wpAnyH_take (i := 15) (v := undef) rfl (by kernel_rfl) (by kernel_rfl) (by kernel_rfl) (fun _ _ _ h => h) (Or.inr ⟨by rfl, rfl⟩) (by assumption) ?_
                  (try simp only [List.getElem_toArray, List.getElem_cons_succ, List.getElem_cons_zero, Act.put, List.setIfInBounds_toArray, List.set_cons_zero, List.set_cons_succ])
                  refine wpAnyH_take (i := 16) (v := ?_) rfl (by kernel_rfl) (by kernel_rfl) (by kernel_rfl) (fun _ _ _ h => h) (Or.inl ⟨by rfl, ?_⟩) (by assumption) ?_
                  rotate_left; focus (intro w hSw; (try dsimp only at hSw); go_simp; try with_reducible rfl)
                  (try simp only [List.getElem_toArray, List.getElem_cons_succ, List.getElem_cons_zero, Act.put, List.setIfInBounds_toArray, List.set_cons_zero, List.set_cons_succ])
                  refine wpAnyH_take (i := 17) (v := ?_) rfl (by kernel_rfl) (by kernel_rfl) (by kernel_rfl) (fun _ _ _ h => h) (Or.inl ⟨by rfl, ?_⟩) (by assumption) ?_
                  rotate_left; focus (intro w hSw; (try dsimp only at hSw); go_simp; try with_reducible rfl)
                  (try simp only [List.getElem_toArray, List.getElem_cons_succ, List.getElem_cons_zero, Act.put, List.setIfInBounds_toArray, List.set_cons_zero, List.set_cons_succ])
                  refine wpAnyH_take (i := 18) (v := ?_) rfl (by kernel_rfl) (by kernel_rfl) (by kernel_rfl) (fun _ _ _ h => h) (Or.inl ⟨by rfl, ?_⟩) (by assumption) ?_
                  rotate_left; focus (intro w hSw; (try dsimp only at hSw); go_simp; try with_reducible rfl)
                  (try simp only [List.getElem_toArray, List.getElem_cons_succ, List.getElem_cons_zero, Act.put, List.setIfInBounds_toArray, List.set_cons_zero, List.set_cons_succ])
                  refine wpAnyH_done (by kernel_rfl) ?_ _
                  go_wp2_with fail
                  go_meet
                  case rel => exact ⟨by simp, hH⟩
                exact AllReadyH.nil
              exact AllReadyH.nil
            exact AllReadyH.nil
          · subst FH
            refine wp_region_held_drew (S := (S8 w w.heap.size (w.heap.size + 1) (w.heap.size + 1 + 1) w7.heap.size w8.heap.size w9.heap.size w11.heap.size w12.heap.size #[.int .i64 xk, .int .i64 xl, .int .i64 xh, .string xs, .bool xa, .bool xm, .bool false, .slice xf 0 xc] #[.int .i64 yk, .int .i64 yl, .int .i64 yh, .string ys, .bool ya, .bool ym, .bool false, .slice yf 0 yc] #[.int .i64 zk, .int .i64 zl, .int .i64 zh, .string zs, .bool za, .bool zm, .bool false, .slice zf 0 zc] #[.int .i64 uk, .int .i64 ul, .int .i64 uh, .string us, .bool ua, .bool um, .bool false, .slice none 0 0] #[.int .i64 vk, .int .i64 vl, .int .i64 vh, .string vs, .bool va, .bool vm, .bool false, .slice none 0 0] #[.int .i64 pk, .int .i64 pl, .int .i64 ph, .string ps, .bool pa, .bool pm, .bool false, .slice none 0 0] #[.int .i64 rk, .int .i64 rl, .int .i64 rh, .string rs, .bool ra, .bool rm, .bool false, .slice none 0 0] #[.int .i64 ik, .int .i64 il, .int .i64 ih, .string is, .bool ia, .bool im, .bool false, .slice none 0 0])) (by kernel_rfl) ?_ (fun hH => ?_)
            · (first | (with_reducible assumption) | (with_reducible exact S8.drew (by assumption)) | (with_reducible exact S8.below (by assumption) (by assumption)))
            refine wpAnyH_take (i := 0) (v := ?_) rfl (by kernel_rfl) (by kernel_rfl) (by kernel_rfl) (fun _ _ _ h => h) (Or.inl ⟨by rfl, ?_⟩) (by assumption) ?_
            rotate_left; focus (intro w hSw; (try dsimp only at hSw); go_simp; try with_reducible rfl)
            (try simp only [List.getElem_toArray, List.getElem_cons_succ, List.getElem_cons_zero, Act.put, List.setIfInBounds_toArray, List.set_cons_zero, List.set_cons_succ])
            refine wpAnyH_ready (rs := [1]) (by kernel_rfl) (by simp) ?_
            refine AllReadyH.cons rfl (fun K hK => ?_) ?_
            · go_simp
              go_at_call 23
              (with_reducible refine (single_b _ _ _ _ _ _ _ _ _ _ _ hsg _).mono ?_)
              rintro e w6 ⟨rfl, hb6⟩
              go_wp2_with fail
              refine hK.out _ _ ?_ (fun hH2 => ?_)
              · (first | (with_reducible assumption) | (with_reducible exact S8.drew (by assumption)) | (with_reducible exact S8.below (by assumption) (by assumption)))
              clear hK K hH
              have hH := hH2; clear hH2
              (try simp only [List.getElem_toArray, List.getElem_cons_succ, List.getElem_cons_zero, Act.put, List.setIfInBounds_toArray, List.set_cons_zero, List.set_cons_succ])
              refine wpAnyH_take (i := 2) (v := ?_) rfl (by kernel_rfl) (by kernel_rfl) (by kernel_rfl) (fun _ _ _ h => h) (Or.inl ⟨by rfl, ?_⟩) (by assumption) ?_
              rotate_left; focus (intro w hSw; (try dsimp only at hSw); go_simp; try with_reducible rfl)
              (try simp only [List.getElem_toArray, List.getElem_cons_succ, List.getElem_cons_zero, Act.put, List.setIfInBounds_toArray, List.set_cons_zero, List.set_cons_succ])
              refine wpAnyH_take (i := 3) (v := ?_) rfl (by kernel_rfl) (by kernel_rfl) (by kernel_rfl) (fun _ _ _ h => h) (Or.inl ⟨by rfl, ?_⟩) (by assumption) ?_
              rotate_left; focus (intro w hSw; (try dsimp only at hSw); go_simp; try with_reducible rfl)
              (try simp only [List.getElem_toArray, List.getElem_cons_succ, List.getElem_cons_zero, Act.put, List.setIfInBounds_toArray, List.set_cons_zero, List.set_cons_succ])
              refine wpAnyH_take (i := 4) (v := ?_) rfl (by kernel_rfl) (by kernel_rfl) (by kernel_rfl) (fun _ _ _ h => h) (Or.inl ⟨by rfl, ?_⟩) (by assumption) ?_
              rotate_left; focus (intro w hSw; (try dsimp only at hSw); go_simp; try with_reducible rfl)
              (try simp only [List.getElem_toArray, List.getElem_cons_succ, List.getElem_cons_zero, Act.put, List.setIfInBounds_toArray, List.set_cons_zero, List.set_cons_succ])
              refine wpAnyH_take (i := 5) (v := ?_) rfl (by kernel_rfl) (by kernel_rfl) (by kernel_rfl) (fun _ _ _ h => h) (Or.inl ⟨by rfl, ?_⟩) (by assumption) ?_
              rotate_left; focus (intro w hSw; (try dsimp only at hSw); go_simp; try with_reducible rfl)
              (try simp only [List.getElem_toArray, List.getElem_cons_succ, List.getElem_cons_zero, Act.put, List.setIfInBounds_toArray, List.set_cons_zero, List.set_cons_succ])
              refine wpAnyH_take (i := 6) (v := ?_) rfl (by kernel_rfl) (by kernel_rfl) (by kernel_rfl) (fun _ _ _ h => h) (Or.inl ⟨by rfl, ?_⟩) (by assumption) ?_
              rotate_left; focus (intro w hSw; (try dsimp only at hSw); go_simp; try with_reducible rfl)
              (try simp only [List.getElem_toArray, List.getElem_cons_succ, List.getElem_cons_zero, Act.put, List.setIfInBounds_toArray, List.set_cons_zero, List.set_cons_succ])
              refine wpAnyH_take (i := 9) (v := ?_) rfl (by kernel_rfl) (by kernel_rfl) (by kernel_rfl) (fun _ _ _ h => h) (Or.inl ⟨by rfl, ?_⟩) (by assumption) ?_
              rotate_left; focus (intro w hSw; (try dsimp only at hSw); go_simp; try with_reducible rfl)
              (try simp only [List.getElem_toArray, List.getElem_cons_succ, List.getElem_cons_zero, Act.put, List.setIfInBounds_toArray, List.set_cons_zero, List.set_cons_succ])
              refine wpAnyH_take (i := 10) (v := ?_) rfl (by kernel_rfl) (by kernel_rfl) (by kernel_rfl) (fun _ _ _ h => h) (Or.inl ⟨by rfl, ?_⟩) (by assumption) ?_
              rotate_left; focus (intro w hSw; (try dsimp only at hSw); go_simp; try with_reducible rfl)
              (try simp only [List.getElem_toArray, List.getElem_cons_succ, List.getElem_cons_zero, Act.put, List.setIfInBounds_toArray, List.set_cons_zero, List.set_cons_succ])
              refine wpAnyH_ready (rs := [7]) (by kernel_rfl) (by simp) ?_
              refine AllReadyH.cons rfl (fun K hK => ?_) ?_
              · go_simp
                go_at_call 39
                (first | (with_reducible refine (has_c _ _ _ _ _ _ _ _ _ _ _ _ _ _ _ _ _ _ _ _ _ hhx _).mono ?_) | (with_reducible refine (has_c _ _ _ _ _ _ _ _ _ _ _ _ _ _ _ _ _ _ _ _ _ hha _).mono ?_) | (with_reducible refine (has_c _ _ _ _ _ _ _ _ _ _ _ _ _ _ _ _ _ _ _ _ _ hhb _).mono ?_))
                rintro e w6 ⟨rfl, hb6⟩
                go_wp2_with fail
                refine hK.out _ _ ?_ (fun hH2 => ?_)
                · (first | (with_reducible assumption) | (with_reducible exact S8.drew (by assumption)) | (with_reducible exact S8.below (by assumption) (by assumption)))
                clear hK K hH
                have hH := hH2; clear hH2
                (try simp only [List.getElem_toArray, List.getElem_cons_succ, List.getElem_cons_zero, Act.put, List.setIfInBounds_toArray, List.set_cons_zero, List.set_cons_succ])
                refine wpAnyH_take (i := 8) (v := ?_) rfl (by kernel_rfl) (by kernel_rfl) (by kernel_rfl) (fun _ _ _ h => h) (Or.inl ⟨by rfl, ?_⟩) (by assumption) ?_
                rotate_left; focus (intro w hSw; (try dsimp only at hSw); go_simp; try with_reducible rfl)
                (try simp only [List.getElem_toArray, List.getElem_cons_succ, List.getElem_cons_zero, Act.put, List.setIfInBounds_toArray, List.set_cons_zero, List.set_cons_succ])
                refine wpAnyH_ready (rs := [11]) (by kernel_rfl) (by simp) ?_
                refine AllReadyH.cons rfl (fun K hK => ?_) ?_
                · go_simp
                  go_at_call 39
                  (first | (with_reducible refine (has_c _ _ _ _ _ _ _ _ _ _ _ _ _ _ _ _ _ _ _ _ _ hhx _).mono ?_) | (with_reducible refine (has_c _ _ _ _ _ _ _ _ _ _ _ _ _ _ _ _ _ _ _ _ _ hha _).mono ?_) | (with_reducible refine (has_c _ _ _ _ _ _ _ _ _ _ _ _ _ _ _ _ _ _ _ _ _ hhb _).mono ?_))
                  rintro e w6 ⟨rfl, hb6⟩
                  go_wp2_with fail
                  refine hK.out _ _ ?_ (fun hH2 => ?_)
                  · (first | (with_reducible assumption) | (with_reducible exact S8.drew (by assumption)) | (with_reducible exact S8.below (by assumption) (by assumption)))
                  clear hK K hH
                  have hH := hH2; clear hH2
                  (try simp only [List.getElem_toArray, List.getElem_cons_succ, List.getElem_cons_zero, Act.put, List.setIfInBounds_toArray, List.set_cons_zero, List.set_cons_succ])
                  refine wpAnyH_take (i := 12) (v := ?_) rfl (by kernel_rfl) (by kernel_rfl) (by kernel_rfl) (fun _ _ _ h => h) (Or.inl ⟨by rfl, ?_⟩) (by assumption) ?_
                  rotate_left; focus (intro w hSw; (try dsimp only at hSw); go_simp; try with_reducible rfl)
                  (try simp only [List.getElem_toArray, List.getElem_cons_succ, List.getElem_cons_zero, Act.put, List.setIfInBounds_toArray, List.set_cons_zero, List.set_cons_succ])
                  refine wpAnyH_take (i := 13) (v := ?_) rfl (by kernel_rfl) (by kernel_rfl) (by kernel_rfl) (fun _ _ _ h => h) (Or.inl ⟨by rfl, ?_⟩) (by assumption) ?_
                  rotate_left; focus (intro w hSw; (try dsimp only at hSw); go_simp; try with_reducible rfl)
                  (try simp only [List.getElem_toArray, List.getElem_cons_succ, List.getElem_cons_zero, Act.put, List.setIfInBounds_toArray, List.set_cons_zero, List.set_cons_succ])
                  refine wpAnyH_take (i := 14) (v := ?_) rfl (by kernel_rfl) (by kernel_rfl) (by kernel_rfl) (fun _ _ _ h => h) (Or.inl ⟨by rfl, ?_⟩) (by assumption) ?_
                  rotate_left; focus (intro w hSw; (try dsimp only at hSw); go_simp; try with_reducible rfl)
                  (try simp only [List.getElem_toArray, List.getElem_cons_succ, List.getElem_cons_zero, Act.put, List.setIfInBounds_toArray, List.set_cons_zero, List.set_cons_succ])
                  refine wpAnyH_ready (rs := [15]) (by kernel_rfl) (by simp) ?_
                  refine AllReadyH.cons rfl (fun K hK => ?_) ?_
                  · go_simp
                    go_at_call 39
                    (first | (with_reducible refine (has_c _ _ _ _ _ _ _ _ _ _ _ _ _ _ _ _ _ _ _ _ _ hhx _).mono ?_) | (with_reducible refine (has_c _ _ _ _ _ _ _ _ _ _ _ _ _ _ _ _ _ _ _ _ _ hha _).mono ?_) | (with_reducible refine (has_c _ _ _ _ _ _ _ _ _ _ _ _ _ _ _ _ _ _ _ _ _ hhb _).mono ?_))
                    rintro e w6 ⟨rfl, hb6⟩
                    go_wp2_with fail
                    refine hK.out _ _ ?_ (fun hH2 => ?_)
                    · (first | (with_reducible assumption) | (with_reducible exact S8.drew (by assumption)) | (with_reducible exact S8.below (by assumption) (by assumption)))
                    clear hK K hH
                    have hH := hH2; clear hH2
                    (try simp only [List.getElem_toArray, List.getElem_cons_succ, List.getElem_cons_zero, Act.put, List.setIfInBounds_toArray, List.set_cons_zero, List.set_cons_succ])
                    refine wpAnyH_take (i := 16) (v := ?_) rfl (by kernel_rfl) (by kernel_rfl) (by kernel_rfl) (fun _ _ _ h => h) (Or.inl ⟨by rfl, ?_⟩) (by assumption) ?_
                    rotate_left; focus (intro w hSw; (try dsimp only at hSw); go_simp; try with_reducible rfl)
                    (try simp only [List.getElem_toArray, List.getElem_cons_succ, List.getElem_cons_zero, Act.put, List.setIfInBounds_toArray, List.set_cons_zero, List.set_cons_succ])
                    refine wpAnyH_take (i := 17) (v := ?_) rfl (by kernel_rfl) (by kernel_rfl) (by kernel_rfl) (fun _ _ _ h => h) (Or.inl ⟨by rfl, ?_⟩) (by assumption) ?_
                    rotate_left; focus (intro w hSw; (try dsimp only at hSw); go_simp; try with_reducible rfl)
                    (try simp only [List.getElem_toArray, List.getElem_cons_succ, List.getElem_cons_zero, Act.put, List.setIfInBounds_toArray, List.set_cons_zero, List.set_cons_succ])
                    refine wpAnyH_take (i := 18) (v := ?_) rfl (by kernel_rfl) (by kernel_rfl) (by kernel_rfl) (fun _ _ _ h => h) (Or.inl ⟨by rfl, ?_⟩) (by assumption) ?_
                    rotate_left; focus (intro w hSw; (try dsimp only at hSw); go_simp; try with_reducible rfl)
                    (try simp only [List.getElem_toArray, List.getElem_cons_succ, List.getElem_cons_zero, Act.put, List.setIfInBounds_toArray, List.set_cons_zero, List.set_cons_succ])
                    refine wpAnyH_done (by kernel_rfl) ?_ _
                    go_wp2_with fail
                    go_meet
                    case rel => exact ⟨by simp, hH⟩
                  exact AllReadyH.nil
                exact AllReadyH.nil
              exact AllReadyH.nil
            exact AllReadyH.nil
      case rest =>
        obtain ⟨rfl, hS⟩ := hcut
        go_wp2_with (go_at_call 19; (with_reducible refine (awake_any _).mono ?_); rintro e w14 ⟨rfl, hb14⟩; replace hS := S8.below hS hb14)
        go_ret
        exact ⟨rfl, hS.2.2.2.2.2.2.2.2.2.1⟩
end Go.Proofs.Ytigdibglkejciaa.Sca
