/-
  The law RankTotal, walked.
-/
import Derived.Test.YtigdibglkejciaaR13
namespace Go.Proofs.Ytigdibglkejciaa.Rank
open Go.RowKit

theorem three_blocks (w : World) (A B C : Array Value) (T : TypeId) : ∃ W, ((w.alloc (.cells A T)).alloc (.cells B T)).alloc (.cells C T) = W ∧ (∀ o, W.cell? ⟨w.heap.size, o, none⟩ = A[o]?) ∧ (∀ o, W.cell? ⟨w.heap.size + 1, o, none⟩ = B[o]?) ∧ (∀ o, W.cell? ⟨w.heap.size + 1 + 1, o, none⟩ = C[o]?) ∧ w.heap.size + 1 + 1 < W.heap.size ∧ Below w.heap.size w W := by
  obtain ⟨W, hW, hA, hB, hl, hb⟩ := two_blocks w A B T
  have e : W.heap.size = w.heap.size + 1 + 1 := by rw [← hW]; simp
  refine ⟨W.alloc (.cells C T), by rw [hW], fun o => ?_, fun o => ?_, fun o => ?_, by simp; omega, hb.alloc (by omega) _⟩
  · rw [World.cell?_alloc_old _ _ _ (by show w.heap.size ≠ W.heap.size; omega), hA]
  · rw [World.cell?_alloc_old _ _ _ (by show w.heap.size + 1 ≠ W.heap.size; omega), hB]
  · rw [← e, World.cell?_alloc_new]

set_option maxHeartbeats 4000000 in
theorem total_walk (n : Nat) (w : World) (B : Nat) (hB : B ≤ w.heap.size) (xa : Option Addr) (xn xc : Nat) (ya : Option Addr) (yn yc : Nat) (za : Option Addr) (zn zc : Nat) (a b c : List (Trm n))
    (ha : ValIn w B n xa xn xc a) (hb : ValIn w B n ya yn yc b) (hc : ValIn w B n za zn zc c) :
    Calls Try.prog 6 #[.agg #[.slice xa xn xc], .agg #[.slice ya yn yc], .agg #[.slice za zn zc]] w fun e w' => e = .returned (.bool true) ∧ Below w.heap.size w w' := by
  have T := cmpV_tri n
  obtain ⟨x, hx⟩ : ∃ x, cmpV n a b = x := ⟨_, rfl⟩
  obtain ⟨y, hy⟩ : ∃ y, cmpV n b c = y := ⟨_, rfl⟩
  obtain ⟨z, hz⟩ : ∃ z, cmpV n a c = z := ⟨_, rfl⟩
  have hx1 : -1 ≤ x ∧ x ≤ 1 := by have := T.range a b; omega
  have hy1 : -1 ≤ y ∧ y ≤ 1 := by have := T.range b c; omega
  have hz1 : -1 ≤ z ∧ z ≤ 1 := by have := T.range a c; omega
  have hon : x ≤ 0 → y ≤ 0 → z ≤ 0 ∧ (z = 0 → x = 0 ∧ y = 0) := by rw [← hx, ← hy, ← hz]; exact T.on a b c
  have C : ∀ {pa : Option Addr} {pn pc : Nat} {qa : Option Addr} {qn qc : Nat} {p q : List (Trm n)} {r : Int}, ValIn w B n pa pn pc p → ValIn w B n qa qn qc q → cmpV n p q = r →
      ∀ W, Below w.heap.size w W → Calls Try.prog 34 #[.agg #[.slice pa pn pc], .agg #[.slice qa qn qc]] W fun e w' => e = .returned (.int .i64 r) ∧ Below W.heap.size W w' :=
    fun hp hq hr W hW => hr ▸ compareOk n W B (by have := hW.size; omega) _ _ _ _ _ _ _ _ (hp.below (hW.mono hB)) (hq.below (hW.mono hB))
  have F : ∀ {pa : Option Addr} {pn pc : Nat} {p : List (Trm n)}, ValIn w B n pa pn pc p → ∀ W, Below w.heap.size w W → Calls Try.prog 32 #[.agg #[.slice pa pn pc]] W (FewPost (Small n p) W) :=
    fun hp W hW => few_any n W B (by have := hW.size; omega) _ _ _ _ (hp.below (hW.mono hB))
  have Cab := Lib.hid (C ha hb hx)
  have Cbc := Lib.hid (C hb hc hy)
  have Cac := Lib.hid (C ha hc hz)
  have Cba := Lib.hid (C hb ha (r := -x) (by rw [T.turn a b, hx]))
  have Caa := Lib.hid (C ha ha (r := 0) (T.self a))
  have Fa := Lib.hid (F ha)
  have Fb := Lib.hid (F hb)
  have Fc := Lib.hid (F hc)
  have HON := Lib.hid hon
  clear C F hx hy hz hon T ha hb hc
  obtain ⟨hx1, hx2⟩ := hx1
  obtain ⟨hy1, hy2⟩ := hy1
  obtain ⟨hz1, hz2⟩ := hz1
  go_enter Try.func6, Try.ntmps6
  go_wp2_with fail
  obtain ⟨W, hW, hA1, hA2, hA3, hl, hbW⟩ := three_blocks w #[.slice xa xn xc] #[.slice ya yn yc] #[.slice za zn zc] 47
  rw [hW]
  clear hW
  have hl1 : w.heap.size < W.heap.size := by omega
  have hl2 : w.heap.size + 1 < W.heap.size := by omega
  have hs0 := hbW.size
  refine (Fa.out W hbW).mono ?_
  rintro e w1 ⟨t1, ht1, rfl, hq1⟩
  clear ht1
  have hs1 := hq1.size
  obtain ⟨hcl, _⟩ := SB.of hq1
  have hA1' : ∀ o, w1.cell? ⟨w.heap.size, o, none⟩ = #[.slice xa xn xc][o]? := fun o => (hcl _ _ (by omega)).trans (hA1 o)
  have hA2' : ∀ o, w1.cell? ⟨w.heap.size + 1, o, none⟩ = #[.slice ya yn yc][o]? := fun o => (hcl _ _ (by omega)).trans (hA2 o)
  have hA3' : ∀ o, w1.cell? ⟨w.heap.size + 1 + 1, o, none⟩ = #[.slice za zn zc][o]? := fun o => (hcl _ _ (by omega)).trans (hA3 o)
  have hbW' : Below w.heap.size w w1 := hbW.trans (hq1.mono (by omega))
  clear hcl hA1 hA2 hA3
  cases t1
  · go_wp2_with (go_at_call 33; (with_reducible refine (awake_any _).mono ?_); rintro e wz ⟨rfl, hbz⟩)
    go_ret
    exact ⟨rfl, hbW'.trans (hbz.mono (by omega))⟩
  go_wp2_with fail
  refine (Fb.out w1 hbW').mono ?_
  rintro e w2 ⟨t2, ht2, rfl, hq2⟩
  clear ht2
  have hs2 := hq2.size
  obtain ⟨hcl, _⟩ := SB.of hq2
  have hA1'' : ∀ o, w2.cell? ⟨w.heap.size, o, none⟩ = #[.slice xa xn xc][o]? := fun o => (hcl _ _ (by omega)).trans (hA1' o)
  have hA2'' : ∀ o, w2.cell? ⟨w.heap.size + 1, o, none⟩ = #[.slice ya yn yc][o]? := fun o => (hcl _ _ (by omega)).trans (hA2' o)
  have hA3'' : ∀ o, w2.cell? ⟨w.heap.size + 1 + 1, o, none⟩ = #[.slice za zn zc][o]? := fun o => (hcl _ _ (by omega)).trans (hA3' o)
  have hbW'' : Below w.heap.size w w2 := hbW'.trans (hq2.mono (by omega))
  clear hcl hA1' hA2' hA3'
  cases t2
  · go_wp2_with (go_at_call 33; (with_reducible refine (awake_any _).mono ?_); rintro e wz ⟨rfl, hbz⟩)
    go_ret
    exact ⟨rfl, hbW''.trans (hbz.mono (by omega))⟩
  go_wp2_with fail
  refine (Fc.out w2 hbW'').mono ?_
  rintro e w3 ⟨t3, ht3, rfl, hq3⟩
  clear ht3
  have hs3 := hq3.size
  obtain ⟨hcl, _⟩ := SB.of hq3
  have hA1''' : ∀ o, w3.cell? ⟨w.heap.size, o, none⟩ = #[.slice xa xn xc][o]? := fun o => (hcl _ _ (by omega)).trans (hA1'' o)
  have hA2''' : ∀ o, w3.cell? ⟨w.heap.size + 1, o, none⟩ = #[.slice ya yn yc][o]? := fun o => (hcl _ _ (by omega)).trans (hA2'' o)
  have hA3''' : ∀ o, w3.cell? ⟨w.heap.size + 1 + 1, o, none⟩ = #[.slice za zn zc][o]? := fun o => (hcl _ _ (by omega)).trans (hA3'' o)
  have hbW''' : Below w.heap.size w w3 := hbW''.trans (hq3.mono (by omega))
  clear hcl hA1'' hA2'' hA3''
  cases t3
  · go_wp2_with (go_at_call 33; (with_reducible refine (awake_any _).mono ?_); rintro e wz ⟨rfl, hbz⟩)
    go_ret
    exact ⟨rfl, hbW'''.trans (hbz.mono (by omega))⟩
  have hl1' : w.heap.size < w3.heap.size := by omega
  have hl2' : w.heap.size + 1 < w3.heap.size := by omega
  have hl3' : w.heap.size + 1 + 1 < w3.heap.size := by omega
  have hbX := Lib.hid hbW'''
  have hsX : w.heap.size ≤ w3.heap.size := by omega
  clear hbW hbW' hbW'' hq1 hq2 hq3 hs0 hs1 hs2 hs3 hl hl1 hl2
  have hS := SB.refl w3
  go_wp2
  go_region_held3 (SB w3) (first | (with_reducible assumption) | (with_reducible exact SB.drew (by assumption)) | (with_reducible exact SB.below (by assumption) (by assumption))) (first | (go_at_call 34; (with_reducible refine (Cab.out _ (by exact hbX.out.trans ((by assumption : SB w3 _).2.mono hsX))).mono ?_); rintro e w4 ⟨rfl, hb4⟩) | (go_at_call 34; (with_reducible refine (Cbc.out _ (by exact hbX.out.trans ((by assumption : SB w3 _).2.mono hsX))).mono ?_); rintro e w5 ⟨rfl, hb5⟩) | (go_at_call 34; (with_reducible refine (Cac.out _ (by exact hbX.out.trans ((by assumption : SB w3 _).2.mono hsX))).mono ?_); rintro e w6 ⟨rfl, hb6⟩))
  obtain ⟨hcl, hbr⟩ := (by assumption : SB w3 w6)
  have hB1 : ∀ o, w6.cell? ⟨w.heap.size, o, none⟩ = #[.slice xa xn xc][o]? := fun o => (hcl _ _ hl1').trans (hA1''' o)
  have hB2 : ∀ o, w6.cell? ⟨w.heap.size + 1, o, none⟩ = #[.slice ya yn yc][o]? := fun o => (hcl _ _ hl2').trans (hA2''' o)
  have hs6 := hbr.size
  have hbY : Below w.heap.size w w6 := hbX.out.trans (hbr.mono hsX)
  have HY := Lib.hid hbY
  replace hB1 := Lib.hid hB1
  clear hcl hB2 hb4 hb5 hb6
  have hl1'' : w.heap.size < w6.heap.size := by omega
  have hl2'' : w.heap.size + 1 < w6.heap.size := by omega
  go_wp2_with fail
  refine (Cba.out _ hbY).mono ?_
  rintro e w7 ⟨rfl, hb7⟩
  have hs7 := hb7.size
  obtain ⟨hcl, _⟩ := SB.of hb7
  have hC1 : ∀ o, w7.cell? ⟨w.heap.size, o, none⟩ = #[.slice xa xn xc][o]? := fun o => (hcl _ _ hl1'').trans (hB1.out o)
  have hbZ : Below w.heap.size w w7 := hbY.trans (hb7.mono (by omega))
  clear hcl hB1 hbY hbr
  go_wp2_with fail
  refine (Caa.out _ hbZ).mono ?_
  rintro e w8 ⟨rfl, hb8⟩
  have hs8 := hb8.size
  have hbA : Below w.heap.size w w8 := hbZ.trans (hb8.mono (by omega))
  clear hbZ hC1
  by_cases k1 : x ≤ 0
  · by_cases k2 : y ≤ 0
    · obtain ⟨k3, k4⟩ := HON.out k1 k2
      cases k5 : ((z : Int) == 0)
      · go_wp2_with (go_at_call 33; (with_reducible refine (awake_any _).mono ?_); rintro e wz ⟨rfl, hbz⟩)
        go_ret
        exact ⟨rfl, hbA.trans (hbz.mono (by omega))⟩
      · obtain ⟨k6, k7⟩ := k4 (by simpa using k5)
        have k8 : ((x + y : Int) != 0) = false := by rw [k6, k7]; rfl
        clear k4 k6 k7
        go_wp2_with (go_at_call 33; (with_reducible refine (awake_any _).mono ?_); rintro e wz ⟨rfl, hbz⟩)
        go_ret
        exact ⟨rfl, hbA.trans (hbz.mono (by omega))⟩
    · have k3 : 0 < y := by omega
      go_wp2_with (go_at_call 33; (with_reducible refine (awake_any _).mono ?_); rintro e wz ⟨rfl, hbz⟩)
      go_ret
      exact ⟨rfl, hbA.trans (hbz.mono (by omega))⟩
  · have k3 : 0 < x := by omega
    go_wp2_with (go_at_call 33; (with_reducible refine (awake_any _).mono ?_); rintro e wz ⟨rfl, hbz⟩)
    go_ret
    exact ⟨rfl, hbA.trans (hbz.mono (by omega))⟩
end Go.Proofs.Ytigdibglkejciaa.Rank
