/-
  The law RankCopies, walked.
-/
import Derived.Test.YtigdibglkejciaaR20
import Derived.Test.YtigdibglkejciaaR22
namespace Go.Proofs.Ytigdibglkejciaa.Rank
open Go.RowKit

theorem ValIn.mono {w : World} {B B' n : Nat} {a : Option Addr} {len cap : Nat} {v : List (Trm n)} (h : ValIn w B n a len cap v) (hB : B ≤ B') : ValIn w B' n a len cap v :=
  ValAt.mono (fun _ _ hb => Nat.lt_of_lt_of_le hb hB) (fun _ _ hb => Nat.lt_of_lt_of_le hb hB) h
theorem same_true (n : Nat) (w : World) (B1 B2 : Nat) (h1 : B1 ≤ w.heap.size) (h2 : B2 ≤ w.heap.size) (xf : Option Addr) (xn xc : Nat) (yf : Option Addr) (yn yc : Nat) (v : List (Trm n)) (hx : ValIn w B1 n xf xn xc v) (hy : ValIn w B2 n yf yn yc v) :
    Calls Try.prog 44 #[.agg #[.slice xf xn xc], .agg #[.slice yf yn yc]] w fun e w' => e = .returned (.bool true) ∧ Below w.heap.size w w' :=
  (sameR_any n w w.heap.size (Nat.le_refl _) xf xn xc yf yn yc v v (hx.mono h1) (hy.mono h2)).mono fun e w' ⟨he, hw⟩ => ⟨by rw [he, (cmpV_tri n).self v]; rfl, hw⟩

set_option maxHeartbeats 4000000 in
theorem copies_walk (n : Nat) (w : World) (B : Nat) (hB : B ≤ w.heap.size) (xa : Option Addr) (xn xc : Nat) (v : List (Trm n)) (hv : ValIn w B n xa xn xc v) :
    Calls Try.prog 10 #[.agg #[.slice xa xn xc]] w fun e w' => e = .returned (.bool true) ∧ Below w.heap.size w w' := by
  have el := hv.len
  subst el
  have V : ∀ W, Below w.heap.size w W → B ≤ W.heap.size ∧ ValIn W B n xa v.length xc v := fun W hW => ⟨by have := hW.size; omega, hv.below (hW.mono hB)⟩
  have HVV := Lib.hid V
  clear V
  go_enter Try.func10, Try.ntmps10
  go_wp2_with fail
  obtain ⟨W, hW, hA, hl, hbW⟩ := one_block w #[.slice xa v.length xc] 47
  rw [hW]
  clear hW
  refine (few_any n W B (HVV.out W hbW).1 _ _ _ _ (HVV.out W hbW).2).mono ?_
  rintro e w1 ⟨t1, ht1, rfl, hq1⟩
  have hs1 := hq1.size
  have hA1 : ∀ o, w1.cell? ⟨w.heap.size, o, none⟩ = #[.slice xa v.length xc][o]? := fun o => (hq1.cell (p := ⟨w.heap.size, o, none⟩) hl).trans (hA o)
  have hb1 : Below w.heap.size w w1 := hbW.trans (hq1.mono (by omega))
  clear hA
  cases t1
  · clear ht1
    go_wp2_with (go_at_call 33; (with_reducible refine (awake_any _).mono ?_); rintro e wz ⟨rfl, hbz⟩)
    go_ret
    exact ⟨rfl, hb1.trans (hbz.mono (by omega))⟩
  have hsm := Lib.hid (ht1 rfl)
  clear ht1
  go_wp2_with fail
  refine (plainOk n w1 B (HVV.out w1 hb1).1 _ _ _ v (HVV.out w1 hb1).2 hsm.out).mono ?_
  rintro e w2 ⟨pa, pcap, rfl, hq2, hwant⟩
  have hs2 := hq2.size
  have hA2 : ∀ o, w2.cell? ⟨w.heap.size, o, none⟩ = #[.slice xa v.length xc][o]? := fun o => (hq2.cell (p := ⟨w.heap.size, o, none⟩) (by show w.heap.size < w1.heap.size; omega)).trans (hA1 o)
  have hb2 : Below w.heap.size w w2 := hb1.trans (hq2.mono (by omega))
  have HWant := Lib.hid hwant.rngIn
  have hk2 : w.heap.size < w2.heap.size := by omega
  clear hA1 hwant
  go_wp2_with fail
  obtain ⟨w3, hW3, hP3, hl3, hq3⟩ := one_block w2 #[.slice pa v.length pcap] 47
  rw [hW3]
  clear hW3
  have hs3 := hq3.size
  have hb3 : Below w.heap.size w w3 := hb2.trans (hq3.mono (by omega))
  have hA3 : ∀ o, w3.cell? ⟨w.heap.size, o, none⟩ = #[.slice xa v.length xc][o]? := fun o => (hq3.cell (p := ⟨w.heap.size, o, none⟩) (by show w.heap.size < w2.heap.size; omega)).trans (hA2 o)
  clear hA2
  refine (copyOk n w3 B (HVV.out w3 hb3).1 _ _ _ v (HVV.out w3 hb3).2 hsm.out).mono ?_
  rintro e w4 ⟨ca, ccap, rfl, hq4, hown⟩
  have hs4 := hq4.size
  have hA4 : ∀ o, w4.cell? ⟨w.heap.size, o, none⟩ = #[.slice xa v.length xc][o]? := fun o => (hq4.cell (p := ⟨w.heap.size, o, none⟩) (by show w.heap.size < w3.heap.size; omega)).trans (hA3 o)
  have hP4 : ∀ o, w4.cell? ⟨w2.heap.size, o, none⟩ = #[.slice pa v.length pcap][o]? := fun o => (hq4.cell (p := ⟨w2.heap.size, o, none⟩) (by show w2.heap.size < w3.heap.size; omega)).trans (hP3 o)
  have HOwn := Lib.hid hown
  have h24 : Below w2.heap.size w2 w4 := hq3.trans (hq4.mono (by omega))
  have hl4 : w2.heap.size < w4.heap.size := by omega
  have hk4 : w.heap.size < w4.heap.size := by omega
  clear hA3 hP3 hown
  go_wp2_with fail
  have hsz5 : (w4.alloc (.cells #[.slice ca v.length ccap] 47)).heap.size = w4.heap.size + 1 := by simp
  refine (same_true n _ w4.heap.size w2.heap.size (by omega) (by omega) _ _ _ _ _ _ v (HOwn.out.inn.below (bel1 _ _)) (HWant.out.below (h24.trans ((bel1 _ _).mono (by omega))))).mono ?_
  rintro e w6 ⟨rfl, hq6⟩
  have hq46 : Below w4.heap.size w4 w6 := (bel1 _ _).trans (hq6.mono (by omega))
  have hs6 := hq6.size
  have hA6 : ∀ o, w6.cell? ⟨w.heap.size, o, none⟩ = #[.slice xa v.length xc][o]? := fun o => (hq46.cell (p := ⟨w.heap.size, o, none⟩) (by show w.heap.size < w4.heap.size; omega)).trans (hA4 o)
  have hP6 : ∀ o, w6.cell? ⟨w2.heap.size, o, none⟩ = #[.slice pa v.length pcap][o]? := fun o => (hq46.cell (p := ⟨w2.heap.size, o, none⟩) hl4).trans (hP4 o)
  have hC6 : ∀ o, w6.cell? ⟨w4.heap.size, o, none⟩ = #[.slice ca v.length ccap][o]? := fun o => (hq6.cell (p := ⟨w4.heap.size, o, none⟩) (by show w4.heap.size < _; omega)).trans (World.cell?_alloc_new _ _ _ _)
  clear hA4 hP4
  go_wp2_with fail
  refine (spoilOk n w6 w3.heap.size (by omega) ca v.length ccap 20 (by omega) (by omega) (HOwn.out.stays (Stays.below hq46) (Nat.le_refl _)).shape).mono ?_
  rintro e w7 ⟨rfl, hsp⟩
  have hq7 := hsp.below
  have hs7 := hq7.size
  have hA7 : ∀ o, w7.cell? ⟨w.heap.size, o, none⟩ = #[.slice xa v.length xc][o]? := fun o => (hq7.cell (p := ⟨w.heap.size, o, none⟩) (by show w.heap.size < w3.heap.size; omega)).trans (hA6 o)
  have hP7 : ∀ o, w7.cell? ⟨w2.heap.size, o, none⟩ = #[.slice pa v.length pcap][o]? := fun o => (hq7.cell (p := ⟨w2.heap.size, o, none⟩) (by show w2.heap.size < w3.heap.size; omega)).trans (hP6 o)
  have h07 : Below w.heap.size w w7 := hb3.trans ((hq4.mono (by omega)).trans ((hq46.mono (by omega)).trans (hq7.mono (by omega))))
  have h27 : Below w2.heap.size w2 w7 := h24.trans ((hq46.mono (by omega)).trans (hq7.mono (by omega)))
  clear hA6 hP6 hC6 hsp
  go_wp2_with fail
  refine (awake_any w7).mono ?_
  rintro e w8 ⟨rfl, hq8⟩
  have hs8 := hq8.size
  have hA8 : ∀ o, w8.cell? ⟨w.heap.size, o, none⟩ = #[.slice xa v.length xc][o]? := fun o => (hq8.cell (p := ⟨w.heap.size, o, none⟩) (by show w.heap.size < w7.heap.size; omega)).trans (hA7 o)
  have hP8 : ∀ o, w8.cell? ⟨w2.heap.size, o, none⟩ = #[.slice pa v.length pcap][o]? := fun o => (hq8.cell (p := ⟨w2.heap.size, o, none⟩) (by show w2.heap.size < w7.heap.size; omega)).trans (hP7 o)
  have h08 : Below w.heap.size w w8 := h07.trans (hq8.mono (by omega))
  have h28 : Below w2.heap.size w2 w8 := h27.trans (hq8.mono (by omega))
  clear hA7 hP7
  go_wp2_with fail
  refine (same_true n w8 B w2.heap.size (by omega) (by omega) _ _ _ _ _ _ v (HVV.out w8 h08).2 (HWant.out.below h28)).mono ?_
  rintro e w9 ⟨rfl, hq9⟩
  go_wp2
  go_ret
  exact ⟨rfl, h08.trans (hq9.mono (by omega))⟩
end Go.Proofs.Ytigdibglkejciaa.Rank
