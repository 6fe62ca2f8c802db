/-
  The law RankOrders, walked.
-/
import Derived.Test.YtigdibglkejciaaR13
namespace Go.Proofs.Ytigdibglkejciaa.Rank
open Go.RowKit

set_option maxRecDepth 100000 in
set_option maxHeartbeats 8000000 in
theorem orders_walk (n : Nat) (w : World) (B : Nat) (hB : B ≤ w.heap.size) (xa : Option Addr) (xn xc : Nat) (ya : Option Addr) (yn yc : Nat) (a b : List (Trm n))
    (ha : ValIn w B n xa xn xc a) (hb : ValIn w B n ya yn yc b) :
    Calls Try.prog 9 #[.agg #[.slice xa xn xc], .agg #[.slice ya yn yc]] w fun e w' => e = .returned (.bool true) ∧ Below w.heap.size w w' := by
  obtain ⟨x, hx⟩ : ∃ x, cmpV n a b = x := ⟨_, rfl⟩
  obtain ⟨s, hs⟩ : ∃ s, (cmpV n a b == 0) = s := ⟨_, rfl⟩
  obtain ⟨g, hg⟩ : ∃ g, W64 (weightV n a) = g := ⟨_, rfl⟩
  obtain ⟨d, hd⟩ : ∃ d, depthV n a = d := ⟨_, rfl⟩
  have V : ∀ W, Below w.heap.size w W → B ≤ W.heap.size ∧ ValIn W B n xa xn xc a ∧ ValIn W B n ya yn yc b := fun W hW => ⟨by have := hW.size; omega, ha.below (hW.mono hB), hb.below (hW.mono hB)⟩
  have C1 : ∀ W, Below w.heap.size w W → Calls Try.prog 34 #[.agg #[.slice xa xn xc], .agg #[.slice ya yn yc]] W fun e w' => e = .returned (.int .i64 x) ∧ Below W.heap.size W w' :=
    fun W hW => hx ▸ compareOk n W B (V W hW).1 _ _ _ _ _ _ _ _ (V W hW).2.1 (V W hW).2.2
  have C2 : ∀ W, Below w.heap.size w W → Calls Try.prog 42 #[.agg #[.slice xa xn xc], .agg #[.slice ya yn yc]] W fun e w' => e = .returned (.int .i64 x) ∧ Below W.heap.size W w' :=
    fun W hW => hx ▸ compareRefOk n W B (V W hW).1 _ _ _ _ _ _ _ _ (V W hW).2.1 (V W hW).2.2
  have C3 : ∀ W, Below w.heap.size w W → Calls Try.prog 43 #[.agg #[.slice xa xn xc], .agg #[.slice ya yn yc]] W fun e w' => e = .returned (.bool s) ∧ Below W.heap.size W w' :=
    fun W hW => hs ▸ same_any n W B (V W hW).1 _ _ _ _ _ _ _ _ (V W hW).2.1 (V W hW).2.2
  have C4 : ∀ W, Below w.heap.size w W → Calls Try.prog 44 #[.agg #[.slice xa xn xc], .agg #[.slice ya yn yc]] W fun e w' => e = .returned (.bool s) ∧ Below W.heap.size W w' :=
    fun W hW => hs ▸ sameR_any n W B (V W hW).1 _ _ _ _ _ _ _ _ (V W hW).2.1 (V W hW).2.2
  have C5 : ∀ W, Below w.heap.size w W → Calls Try.prog 45 #[.agg #[.slice xa xn xc]] W fun e w' => e = .returned (.int .i64 g) ∧ Below W.heap.size W w' :=
    fun W hW => hg ▸ weightOk n W B (V W hW).1 _ _ _ _ (V W hW).2.1
  have C6 : ∀ W, Below w.heap.size w W → Calls Try.prog 46 #[.agg #[.slice xa xn xc]] W fun e w' => e = .returned (.int .i64 g) ∧ Below W.heap.size W w' :=
    fun W hW => hg ▸ weightRefOk n W B (V W hW).1 _ _ _ _ (V W hW).2.1
  have C7 : ∀ W, Below w.heap.size w W → Calls Try.prog 47 #[.agg #[.slice xa xn xc]] W fun e w' => e = .returned (.int .i64 d) ∧ Below W.heap.size W w' :=
    fun W hW => hd ▸ depthOk n W B (V W hW).1 _ _ _ _ (V W hW).2.1
  have C8 : ∀ W, Below w.heap.size w W → Calls Try.prog 48 #[.agg #[.slice xa xn xc]] W fun e w' => e = .returned (.int .i64 d) ∧ Below W.heap.size W w' :=
    fun W hW => hd ▸ depthRefOk n W B (V W hW).1 _ _ _ _ (V W hW).2.1
  have Fa : ∀ W, Below w.heap.size w W → Calls Try.prog 32 #[.agg #[.slice xa xn xc]] W (FewPost (Small n a) W) := fun W hW => few_any n W B (V W hW).1 _ _ _ _ (V W hW).2.1
  have Fb : ∀ W, Below w.heap.size w W → Calls Try.prog 32 #[.agg #[.slice ya yn yc]] W (FewPost (Small n b) W) := fun W hW => few_any n W B (V W hW).1 _ _ _ _ (V W hW).2.2
  replace C1 := Lib.hid C1
  replace C2 := Lib.hid C2
  replace C3 := Lib.hid C3
  replace C4 := Lib.hid C4
  replace C5 := Lib.hid C5
  replace C6 := Lib.hid C6
  replace C7 := Lib.hid C7
  replace C8 := Lib.hid C8
  replace Fa := Lib.hid Fa
  replace Fb := Lib.hid Fb
  have ma := ha.bound
  have mb := hb.bound
  have HA := Lib.hid ha
  have HB := Lib.hid hb
  clear V hx hs hg hd ha hb
  go_enter Try.func9, Try.ntmps9
  go_wp2_with fail
  obtain ⟨W, hW, hA1, hA2, hl, hbW⟩ := two_blocks w #[.slice xa xn xc] #[.slice ya yn yc] 47
  rw [hW]
  clear hW
  have hs0 := hbW.size
  refine (Fa.out W hbW).mono ?_
  rintro e w1 ⟨t1, ht1, rfl, hq1⟩
  clear ht1
  have hs1 := hq1.size
  obtain ⟨hcl, _⟩ := SB.of hq1
  have hA1' : ∀ o, w1.cell? ⟨w.heap.size, o, none⟩ = #[.slice xa xn xc][o]? := fun o => (hcl _ _ (by omega)).trans (hA1 o)
  have hA2' : ∀ o, w1.cell? ⟨w.heap.size + 1, o, none⟩ = #[.slice ya yn yc][o]? := fun o => (hcl _ _ (by omega)).trans (hA2 o)
  have hbW' : Below w.heap.size w w1 := hbW.trans (hq1.mono (by omega))
  clear hcl hA1 hA2
  cases t1
  · go_wp2_with (go_at_call 33; (with_reducible refine (awake_any _).mono ?_); rintro e wz ⟨rfl, hbz⟩)
    go_ret
    exact ⟨rfl, hbW'.trans (hbz.mono (by omega))⟩
  go_wp2_with fail
  refine (Fb.out w1 hbW').mono ?_
  rintro e w2 ⟨t2, ht2, rfl, hq2⟩
  clear ht2
  have hs2 := hq2.size
  obtain ⟨hcl, _⟩ := SB.of hq2
  have hA1'' : ∀ o, w2.cell? ⟨w.heap.size, o, none⟩ = #[.slice xa xn xc][o]? := fun o => (hcl _ _ (by omega)).trans (hA1' o)
  have hA2'' : ∀ o, w2.cell? ⟨w.heap.size + 1, o, none⟩ = #[.slice ya yn yc][o]? := fun o => (hcl _ _ (by omega)).trans (hA2' o)
  have hbX : Below w.heap.size w w2 := hbW'.trans (hq2.mono (by omega))
  clear hcl hA1' hA2'
  cases t2
  · go_wp2_with (go_at_call 33; (with_reducible refine (awake_any _).mono ?_); rintro e wz ⟨rfl, hbz⟩)
    go_ret
    exact ⟨rfl, hbX.trans (hbz.mono (by omega))⟩
  have hl1 : w.heap.size < w2.heap.size := by omega
  have hl2 : w.heap.size + 1 < w2.heap.size := by omega
  clear hq1 hq2 hbW hbW' hs0 hs1 hs2 hl
  go_wp2_with fail
  go_loopw [5] (fun i wr => ∃ k : Nat, k ≤ xn ∧ i = .int .i64 k ∧ SB w2 wr) (fun i _ => xn - (intOf i).toNat)
  case atStart => exact ⟨0, Nat.zero_le _, rfl, SB.refl _⟩
  case round =>
    obtain ⟨k, hk1, rfl, ⟨hcl, hbr⟩⟩ := hrel
    have hsr := hbr.size
    have hD1 : ∀ o, wr.cell? ⟨w.heap.size, o, none⟩ = #[.slice xa xn xc][o]? := fun o => (hcl _ _ hl1).trans (hA1'' o)
    have hD2 : ∀ o, wr.cell? ⟨w.heap.size + 1, o, none⟩ = #[.slice ya yn yc][o]? := fun o => (hcl _ _ hl2).trans (hA2'' o)
    have hbY : Below w.heap.size w wr := hbX.trans (hbr.mono (by omega))
    have hsw := hbY.size
    clear hcl hA1'' hA2''
    have hl3 : w.heap.size < wr.heap.size := by omega
    have hl4 : w.heap.size + 1 < wr.heap.size := by omega
    by_cases hlt : k < xn ∧ k < yn
    · obtain ⟨hlt1, hlt2⟩ := hlt
      have i1 : (0 : Int) ≤ (k : Int) := by omega
      have i2 : (k : Int) < (xn : Int) := by omega
      have i3 : (k : Int) < (yn : Int) := by omega
      obtain ⟨m, rfl⟩ : ∃ m, n = m + 1 := by
        cases n with
        | zero => have := HA.out.1; omega
        | succ m => exact ⟨m, rfl⟩
      obtain ⟨xb, xo, rfl⟩ := HA.out.some (by omega)
      obtain ⟨yb, yo, rfl⟩ := HB.out.some (by omega)
      obtain ⟨ak, al, ah, as_, aa, am, ao, fs, fa, fl, fc, _, hxb, hxp, hxf⟩ := HA.out.elem k hlt1
      obtain ⟨bk, bl, bh, bs, ba, bm, bo, gs, ga, gl, gc, _, hyb, hyp, hyf⟩ := HB.out.elem k hlt2
      have hP : PlAt wr xb xo k ⟨ak, al, ah, as_, aa, am, ao⟩ fa fl fc := hxp.kept (fun o => hbY.cell (p := ⟨xb, o, none⟩) (by show xb < w.heap.size; omega))
      have hQ : PlAt wr yb yo k ⟨bk, bl, bh, bs, ba, bm, bo⟩ ga gl gc := hyp.kept (fun o => hbY.cell (p := ⟨yb, o, none⟩) (by show yb < w.heap.size; omega))
      clear hxp hyp
      obtain ⟨c, hc⟩ : ∃ c, cmpT (m + 1) (⟨ak, al, ah, as_, aa, am, ao⟩, fs) (⟨bk, bl, bh, bs, ba, bm, bo⟩, gs) = c := ⟨_, rfl⟩
      have T1 : ∀ W, Below wr.heap.size wr W → Calls Try.prog 40 #[.agg #[.int .i64 ak, .int .i64 al, .int .i64 ah, .string as_, .bool aa, .bool am, .bool ao, .slice fa fl fc], .agg #[.int .i64 bk, .int .i64 bl, .int .i64 bh, .string bs, .bool ba, .bool bm, .bool bo, .slice ga gl gc]] W fun e w' => e = .returned (.int .i64 c) ∧ Below W.heap.size W w' := fun W hW => hc ▸ termsOk m W B (by have := hW.size; omega) ak al ah as_ aa am ao fa fl fc bk bl bh bs ba bm bo ga gl gc fs gs (hxf.below ((hbY.mono hB).trans (hW.mono (by omega)))) (hyf.below ((hbY.mono hB).trans (hW.mono (by omega))))
      have T2 : ∀ W, Below wr.heap.size wr W → Calls Try.prog 41 #[.agg #[.int .i64 ak, .int .i64 al, .int .i64 ah, .string as_, .bool aa, .bool am, .bool ao, .slice fa fl fc], .agg #[.int .i64 bk, .int .i64 bl, .int .i64 bh, .string bs, .bool ba, .bool bm, .bool bo, .slice ga gl gc]] W fun e w' => e = .returned (.int .i64 c) ∧ Below W.heap.size W w' := fun W hW => hc ▸ termsRefOk m W B (by have := hW.size; omega) ak al ah as_ aa am ao fa fl fc bk bl bh bs ba bm bo ga gl gc fs gs (hxf.below ((hbY.mono hB).trans (hW.mono (by omega)))) (hyf.below ((hbY.mono hB).trans (hW.mono (by omega))))
      replace T1 := Lib.hid T1
      replace T2 := Lib.hid T2
      clear hc hxf hyf
      obtain ⟨c0, c1, c2, c3, c4, c5, c6, c7⟩ := hP
      obtain ⟨d0, d1, d2, d3, d4, d5, d6, d7⟩ := hQ
      simp only at c0 c1 c2 c3 c4 c5 c6 d0 d1 d2 d3 d4 d5 d6
      have hl5 : xb < wr.heap.size := by omega
      have hl6 : yb < wr.heap.size := by omega
      have hS := SB.refl wr
      go_wp2
      go_region_held3 (SB wr) (first | (with_reducible assumption) | (with_reducible exact SB.drew (by assumption)) | (with_reducible exact SB.below (by assumption) (by assumption))) (first | (go_at_call 40; (with_reducible refine (T1.out _ (by exact (by assumption : SB wr _).2)).mono ?_); rintro e w3 ⟨rfl, hb3⟩) | (go_at_call 41; (with_reducible refine (T2.out _ (by exact (by assumption : SB wr _).2)).mono ?_); rintro e w4 ⟨rfl, hb4⟩))
      have hbw : SB w2 w4 := SB.of (hbr.trans ((by assumption : SB wr w4).2.mono hsr))
      go_wp2
      go_roundw
      case rel => exact ⟨k + 1, by omega, by go_num, hbw⟩
      case measure => simp [intOf]; omega
    · have hE : Hid (Below w.heap.size w wr) := hbY
      have hS := SB.refl wr
      by_cases hlt1 : k < xn
      · have hz : (yn : Int) ≤ (k : Int) := by omega
        have i2 : (k : Int) < (xn : Int) := by omega
        go_wp2
        go_region_held3 (SB wr) (first | (with_reducible assumption) | (with_reducible exact SB.drew (by assumption)) | (with_reducible exact SB.below (by assumption) (by assumption))) (first | (go_at_call 33; (with_reducible refine (awake_any _).mono ?_); rintro e v0 ⟨rfl, hv0⟩) | (go_at_call 34; (with_reducible refine (C1.out _ (by exact hE.out.trans ((by assumption : SB wr _).2.mono hsw))).mono ?_); rintro e v1 ⟨rfl, hv1⟩) | (go_at_call 42; (with_reducible refine (C2.out _ (by exact hE.out.trans ((by assumption : SB wr _).2.mono hsw))).mono ?_); rintro e v2 ⟨rfl, hv2⟩) | (go_at_call 43; (with_reducible refine (C3.out _ (by exact hE.out.trans ((by assumption : SB wr _).2.mono hsw))).mono ?_); rintro e v3 ⟨rfl, hv3⟩) | (go_at_call 44; (with_reducible refine (C4.out _ (by exact hE.out.trans ((by assumption : SB wr _).2.mono hsw))).mono ?_); rintro e v4 ⟨rfl, hv4⟩) | (go_at_call 45; (with_reducible refine (C5.out _ (by exact hE.out.trans ((by assumption : SB wr _).2.mono hsw))).mono ?_); rintro e v5 ⟨rfl, hv5⟩) | (go_at_call 46; (with_reducible refine (C6.out _ (by exact hE.out.trans ((by assumption : SB wr _).2.mono hsw))).mono ?_); rintro e v6 ⟨rfl, hv6⟩) | (go_at_call 47; (with_reducible refine (C7.out _ (by exact hE.out.trans ((by assumption : SB wr _).2.mono hsw))).mono ?_); rintro e v7 ⟨rfl, hv7⟩) | (go_at_call 48; (with_reducible refine (C8.out _ (by exact hE.out.trans ((by assumption : SB wr _).2.mono hsw))).mono ?_); rintro e v8 ⟨rfl, hv8⟩))
        have hfin := hE.out.trans ((by assumption : SB wr v8).2.mono hsw)
        go_wp2
        go_ret
        exact ⟨rfl, hfin⟩
      · have hz : (xn : Int) ≤ (k : Int) := by omega
        go_wp2
        go_region_held3 (SB wr) (first | (with_reducible assumption) | (with_reducible exact SB.drew (by assumption)) | (with_reducible exact SB.below (by assumption) (by assumption))) (first | (go_at_call 33; (with_reducible refine (awake_any _).mono ?_); rintro e v0 ⟨rfl, hv0⟩) | (go_at_call 34; (with_reducible refine (C1.out _ (by exact hE.out.trans ((by assumption : SB wr _).2.mono hsw))).mono ?_); rintro e v1 ⟨rfl, hv1⟩) | (go_at_call 42; (with_reducible refine (C2.out _ (by exact hE.out.trans ((by assumption : SB wr _).2.mono hsw))).mono ?_); rintro e v2 ⟨rfl, hv2⟩) | (go_at_call 43; (with_reducible refine (C3.out _ (by exact hE.out.trans ((by assumption : SB wr _).2.mono hsw))).mono ?_); rintro e v3 ⟨rfl, hv3⟩) | (go_at_call 44; (with_reducible refine (C4.out _ (by exact hE.out.trans ((by assumption : SB wr _).2.mono hsw))).mono ?_); rintro e v4 ⟨rfl, hv4⟩) | (go_at_call 45; (with_reducible refine (C5.out _ (by exact hE.out.trans ((by assumption : SB wr _).2.mono hsw))).mono ?_); rintro e v5 ⟨rfl, hv5⟩) | (go_at_call 46; (with_reducible refine (C6.out _ (by exact hE.out.trans ((by assumption : SB wr _).2.mono hsw))).mono ?_); rintro e v6 ⟨rfl, hv6⟩) | (go_at_call 47; (with_reducible refine (C7.out _ (by exact hE.out.trans ((by assumption : SB wr _).2.mono hsw))).mono ?_); rintro e v7 ⟨rfl, hv7⟩) | (go_at_call 48; (with_reducible refine (C8.out _ (by exact hE.out.trans ((by assumption : SB wr _).2.mono hsw))).mono ?_); rintro e v8 ⟨rfl, hv8⟩))
        have hfin := hE.out.trans ((by assumption : SB wr v8).2.mono hsw)
        go_wp2
        go_ret
        exact ⟨rfl, hfin⟩
end Go.Proofs.Ytigdibglkejciaa.Rank
