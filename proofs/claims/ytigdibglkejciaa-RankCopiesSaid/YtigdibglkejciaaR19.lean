/-
  Copy, walked.
-/
import Derived.Test.YtigdibglkejciaaR18
namespace Go.Proofs.Ytigdibglkejciaa.Rank
open Go.RowKit

def CopyPost (n : Nat) (v : List (Trm n)) (w : World) (e : Ending) (w' : World) : Prop := ∃ (a : Option Addr) (cap : Nat), e = .returned (.agg #[.slice a v.length cap]) ∧ Below w.heap.size w w' ∧ ValOwn w' w.heap.size n a v.length cap v
def CopyOk (n : Nat) : Prop := ∀ (W : World) (B : Nat) (_ : B ≤ W.heap.size) (xf : Option Addr) (xn xc : Nat) (v : List (Trm n)), ValIn W B n xf xn xc v → Small n v →
  Calls Try.prog 50 #[.agg #[.slice xf xn xc]] W (CopyPost n v W)

def ClonePost0 (w : World) (e : Ending) (w' : World) : Prop := ∃ (a : Option Addr) (cap : Nat), e = .returned (.slice a 0 cap) ∧ cap ≤ maxLen ∧ (a = none → cap = 0) ∧ Below w.heap.size w w'
theorem cloneT_zero (xa : Option Addr) (xc : Nat) (w : World) : Calls Try.prog 76 #[.slice xa 0 xc] w (ClonePost0 w) := by
  cases xa with
  | none => exact (cloneT_nil 0 xc w).mono fun e w' ⟨he, hw⟩ => hw ▸ ⟨none, 0, he, by unfold maxLen; omega, fun _ => rfl, Below.refl _ _⟩
  | some a =>
    refine (cloneT_own a 0 xc [] w rfl (by omega) (by intro j u hj; simp at hj) (by intro u hu; cases hu)).mono fun e w' ⟨v', he, ho, _, hb⟩ => ?_
    obtain ⟨a', cap, rfl, hm, hn⟩ := ownsRow_zero ho
    exact ⟨a', cap, he, hm, hn, hb⟩
set_option maxHeartbeats 1000000 in
theorem copy_zero (xa : Option Addr) (xc n : Nat) (w : World) : Calls Try.prog 50 #[.agg #[.slice xa 0 xc]] w (CopyPost n [] w) := by
  go_enter Try.func50, Try.ntmps50
  go_wp2_with fail
  refine (cloneT_zero _ _ _).mono ?_
  rintro e w1 ⟨a, cap, rfl, hm, hn, hb⟩
  obtain ⟨hc, hf⟩ := bcell hb
  have hs := hb.size
  simp only [World.size_alloc] at hs
  have hk1 : w.heap.size + 1 < w1.heap.size := by omega
  go_wp2
  go_loop [14] (fun i => i = .int .i64 0) (fun _ => 0)
  case atStart => rfl
  case round =>
    subst hrel
    go_wp2
    have hst : ∀ u, (w1.setCell ⟨w.heap.size + 1, 0, none⟩ u).cell? ⟨w.heap.size + 1, 0, none⟩ = some u := fun u => World.cell?_setCell_same (u := .slice none 0 0) _ _ _ (by go_simp)
    refine bodyPost_ret (v := .agg #[.slice a 0 cap]) (by simp [results, Try.results50, go_sem, hst]) rfl ?_
    exact ⟨a, cap, rfl, ((bel2 _ _ _).trans (hb.mono (by simp; omega))).setCell (by simp) _, val_none hm hn⟩

set_option maxHeartbeats 8000000 in
theorem copy_succ (n : Nat) (HW : Hid (CopyOk n)) : CopyOk (n + 1) := by
  intro w B hB xa xn xc v hv hsm
  have el := hv.len
  have CL : ∀ W, Below w.heap.size w W → Calls Try.prog 76 #[.slice xa xn xc] W (CloneTPost n B v W) := fun W hW => cloneT_any n W B (by have := hW.size; omega) xa xn xc v (hv.below (hW.mono hB)) hsm.1
  replace CL := Lib.hid CL
  have hlen := hsm.1
  have HS := Lib.hid hsm
  clear hsm hv
  subst el
  go_enter Try.func50, Try.ntmps50
  go_wp2_with fail
  refine (CL.out _ (bel2 _ _ _)).mono ?_
  rintro e w1 ⟨a, cap, g, rfl, hcap, hm, hn, hb, hg⟩
  have hg0 := Lib.hid hg
  clear hg
  have hs := hb.size
  simp only [World.size_alloc] at hs
  obtain ⟨hR, hRf⟩ : w1.cell? ⟨w.heap.size + 1, 0, none⟩ = some (.slice none 0 0) ∧ w1.frozen? ⟨w.heap.size + 1, 0, none⟩ = false := by
    obtain ⟨hc, hf⟩ := bcell hb
    rw [hc _ _ (by simp), hf _ _ (by simp)]
    constructor
    · go_simp
    · go_simp
  have hbW : Below w.heap.size w w1 := (bel2 _ _ _).trans (hb.mono (by simp; omega))
  have hgs : 0 < v.length → w.heap.size + 2 ≤ g := fun h => by have := (hg0.out h).2.1; simpa using this
  have h0 : 0 < v.length → blk w1 33 g ∧ InT w1 (g + 1) B n g 0 v := fun h => by
    obtain ⟨_, _, hk, hat⟩ := hg0.out h
    refine ⟨hk, fun j hj => ?_⟩
    obtain ⟨fa, fl, fc, hp, hf⟩ := hat j hj
    exact ⟨fa, fl, fc, hp, fun h => absurd h (by omega), fun _ => hf⟩
  have hae : Hid (0 < v.length → a = some ⟨g, 0, none⟩) := fun h => (hg0.out h).1
  have H0 := Lib.hid h0
  clear h0 hg0 hb
  have hk1 : w.heap.size + 1 < w1.heap.size := by omega
  go_wp2
  go_loopw [14] (fun i wr => ∃ k : Nat, k ≤ v.length ∧ i = .int .i64 k ∧ Below w.heap.size w wr ∧ w.heap.size + 1 < wr.heap.size ∧ wr.cell? ⟨w.heap.size + 1, 0, none⟩ = some (.slice none 0 0) ∧ wr.frozen? ⟨w.heap.size + 1, 0, none⟩ = false ∧ Hid (0 < v.length → blk wr 33 g ∧ InT wr (g + 1) B n g k v)) (fun i _ => v.length - (intOf i).toNat)
  case atStart => exact ⟨0, Nat.zero_le _, rfl, hbW, hk1, hR, hRf, H0⟩
  case round =>
    obtain ⟨k, hk, rfl, hbel, hsz, hR', hRf', hin⟩ := hrel
    clear hR hRf H0 hbW hk1 hs
    have hsw := hbel.size
    by_cases hlt : k < v.length
    · have hpos : 0 < v.length := by omega
      obtain rfl := hae.out hpos
      have hg2 := hgs hpos
      obtain ⟨hkT, hInT⟩ := hin.out hpos
      have hgl := hkT.lt
      obtain ⟨fa, fl, fc, hp, _, hfs⟩ := hInT k hlt
      have hfs := hfs (Nat.le_refl _)
      obtain ⟨c0, c1, c2, c3, c4, c5, c6, c7⟩ := hp
      simp only [Nat.zero_add] at c0 c1 c2 c3 c4 c5 c6 c7
      have efl := hfs.len
      obtain ⟨hsF, hsV⟩ := HS.out.2 k hlt
      generalize hx : v[k] = x at c0 c1 c2 c3 c4 c5 c6 hfs efl hsF hsV
      obtain ⟨⟨xk, xl, xh, xs, xa', xm, xo⟩, fs⟩ := x
      simp only at c0 c1 c2 c3 c4 c5 c6 hfs efl hsF hsV
      subst efl
      have HX := Lib.hid hx
      have HIT := Lib.hid hInT
      have HKT := Lib.hid hkT
      have CF : ∀ W, Below wr.heap.size wr W → Calls Try.prog 77 #[.slice fa fs.length fc] W (CloneFPost n B fs W) := fun W hW => cloneF_any n W B (by have := hW.size; omega) fa fs.length fc fs (hfs.below (hW.mono (by omega))) (by omega)
      replace CF := Lib.hid CF
      have HSV := Lib.hid hsV
      clear hx hInT hkT hin hfs hsV
      have i1 : (0 : Int) ≤ (k : Int) := by omega
      have i2 : (k : Int) < (v.length : Int) := by omega
      go_wp2_with fail
      refine (CF.out _ (bel1 _ _)).mono ?_
      rintro e w2 ⟨oa, ocap, h, rfl, hocap, hom, hon, hb2, hh⟩
      have HH := Lib.hid hh
      clear hh
      have hs2 := hb2.size
      simp only [World.size_alloc] at hs2
      have hbO : Below wr.heap.size wr w2 := (bel1 _ _).trans (hb2.mono (by simp))
      have hhs : 0 < fs.length → wr.heap.size + 1 ≤ h := fun h => by have := (HH.out h).2.1; simpa using this
      have hoe : Hid (0 < fs.length → oa = some ⟨h, 0, none⟩) := fun h => (HH.out h).1
      have hF0 : Hid (0 < fs.length → blk w2 87 h ∧ InF w2 (h + 1) B n h 0 fs) := fun h => by
        obtain ⟨_, _, hk, hat⟩ := HH.out h
        refine ⟨hk, fun j hj => ?_⟩
        obtain ⟨c0, ta, tl, tc, c1, hV⟩ := hat j hj
        exact ⟨c0, ta, tl, tc, c1, fun h => absurd h (by omega), fun _ => hV⟩
      clear HH hb2 c0 c1 c2 c3 c4 c5 c6 c7
      obtain ⟨wo, hwo⟩ : ∃ wo : World, wo = wr := ⟨_, rfl⟩
      subst hwo
      go_wp2
      go_loopw [24] (fun i wr => ∃ j : Nat, j ≤ fs.length ∧ i = .int .i64 j ∧ Below wo.heap.size wo wr ∧ Hid (0 < fs.length → blk wr 87 h ∧ InF wr (h + 1) B n h j fs)) (fun i _ => fs.length - (intOf i).toNat)
      case atStart => exact ⟨0, Nat.zero_le _, rfl, hbO, hF0⟩
      case round =>
        obtain ⟨j, hj, rfl, hbel2, hin2⟩ := hrel
        clear hF0 hbO hs2
        have hsw2 := hbel2.size
        by_cases hjlt : j < fs.length
        · have hposF : 0 < fs.length := by omega
          obtain rfl := hoe.out hposF
          have hh2 := hhs hposF
          obtain ⟨hkF, hInF⟩ := hin2.out hposF
          have hhl := hkF.lt
          have hfz := hkF.free
          obtain ⟨d0, ta, tl, tc, d1, _, hval⟩ := hInF j hjlt
          have hval := hval (Nat.le_refl _)
          have hsmall := HSV.out j hjlt
          simp only [Nat.zero_add] at d0 d1
          have CP : ∀ W, Below wr.heap.size wr W → Calls Try.prog 50 #[.agg #[.slice ta tl tc]] W (CopyPost n fs[j].2 W) := fun W hW => (HW.out : CopyOk n) W B (by have := hW.size; omega) ta tl tc _ (hval.below (hW.mono (by omega))) hsmall
          generalize hy : fs[j] = y at d0 CP
          obtain ⟨ys, gs⟩ := y
          simp only at d0 CP
          have HY := Lib.hid hy
          replace CP := Lib.hid CP
          have HIF := Lib.hid hInF
          have HKF := Lib.hid hkF
          clear hy hInF hkF hin2 hval hsmall
          have i3 : (0 : Int) ≤ (j : Int) := by omega
          have i4 : (j : Int) < (fs.length : Int) := by omega
          go_wp2_with fail
          refine (CP.out _ (bel1 _ _)).mono ?_
          rintro e w3 ⟨ra, rcap, rfl, hb3, hown⟩
          have hs3 := hb3.size
          simp only [World.size_alloc] at hs3
          have hbO3 : Below wr.heap.size wr w3 := (bel1 _ _).trans (hb3.mono (by simp))
          have e0 : w3.cell? ⟨h, j * 2 + 1, none⟩ = some (.slice ta tl tc) := (hbO3.cell (p := ⟨h, _, none⟩) hhl).trans d1
          have e1 : w3.frozen? ⟨h, j * 2 + 1, none⟩ = false := (hbO3.frozen (p := ⟨h, _, none⟩) hhl).trans (hfz _)
          have HO := Lib.hid hown
          clear hown hb3 d0 d1 hfz
          go_wp2
          go_roundw
          case rel =>
            refine ⟨j + 1, by omega, by go_num, (hbel2.trans (hbO3.mono hsw2)).setCell (by show wo.heap.size ≤ h; omega) _, fun _ => ⟨(HKF.out.below hbO3 hhl).setCell _ _, ?_⟩⟩
            refine InF.set (HIF.out.below hbO3 hhl (by omega)) hjlt ?_ (by omega) (by omega)
            rw [HY.out]
            exact HO.out.stays (Stays.refl _ _) (by simp; omega)
          case measure => simp [intOf]; omega
        · have hge : (fs.length : Int) ≤ (j : Int) := by omega
          obtain rfl : j = fs.length := by omega
          have hFS : FsOwn wr (g + 1) n oa fs.length ocap fs := by
            by_cases hz : 0 < fs.length
            · obtain ⟨hkF, hInF⟩ := hin2.out hz
              have := hhs hz
              rw [hoe.out hz]
              exact hInF.done hkF (by omega) (by omega) hocap hom
            · obtain rfl : fs = [] := List.length_eq_zero_iff.1 (by omega)
              exact fs_none hom hon
          have HFS := Lib.hid hFS
          clear hFS hin2
          have e0 : ∃ z, wr.cell? ⟨g, k * 8 + 7, none⟩ = some z := by
            obtain ⟨fa', fl', fc', hp, _⟩ := HIT.out k hlt
            have := hp.2.2.2.2.2.2.2
            rw [Nat.zero_add] at this
            exact ⟨_, (hbel2.cell (p := ⟨g, _, none⟩) hgl).trans this⟩
          obtain ⟨z, e0⟩ := e0
          have e1 : wr.frozen? ⟨g, k * 8 + 7, none⟩ = false := (hbel2.frozen (p := ⟨g, _, none⟩) hgl).trans (HKT.out.free _)
          go_wp2
          go_roundw
          case rel =>
            refine ⟨k + 1, by omega, by go_num, (hbel.trans (hbel2.mono hsw)).setCell (by show w.heap.size ≤ g; omega) _, by simp; omega, ?_, ?_, fun _ => ⟨(HKT.out.below hbel2 hgl).setCell _ _, ?_⟩⟩
            · rw [cell_set_ne _ _ _ _ _ _ (Or.inl (by omega))]
              exact (hbel2.cell (p := ⟨w.heap.size + 1, 0, none⟩) hsz).trans hR'
            · rw [World.frozen?_setCell]
              exact (hbel2.frozen (p := ⟨w.heap.size + 1, 0, none⟩) hsz).trans hRf'
            · refine InT.set (HIT.out.below hbel2 hgl (by omega)) hlt ?_ (by omega) (by omega)
              rw [HX.out]
              exact HFS.out
          case measure => simp [intOf]; omega
    · have hge : (v.length : Int) ≤ (k : Int) := by omega
      obtain rfl : k = v.length := by omega
      have hV : ValOwn wr (w.heap.size + 2) (n + 1) a v.length cap v := by
        by_cases hz : 0 < v.length
        · obtain ⟨hkT, hInT⟩ := hin.out hz
          have := hgs hz
          rw [hae.out hz]
          exact hInT.done hkT (by omega) (by omega) hcap hm
        · obtain rfl : v = [] := List.length_eq_zero_iff.1 (by omega)
          exact val_none hm hn
      have HV := Lib.hid hV
      clear hV hin
      have hst : ∀ u, (wr.setCell ⟨w.heap.size + 1, 0, none⟩ u).cell? ⟨w.heap.size + 1, 0, none⟩ = some u := fun u => World.cell?_setCell_same (u := .slice none 0 0) _ _ _ hR'
      have HST := Lib.hid hst
      clear hst
      go_wp2
      have hst := HST.out
      refine bodyPost_ret (v := .agg #[.slice a v.length cap]) (by simp [results, Try.results50, go_sem, hst]) rfl ?_
      refine ⟨a, cap, rfl, hbel.setCell (by show w.heap.size ≤ w.heap.size + 1; omega) _, ?_⟩
      exact HV.out.stays (Stays.set (by omega)) (by omega)
theorem copyOk : ∀ n, CopyOk n
  | 0 => by
    intro w B hB xa xn xc v hv _
    obtain rfl : xn = 0 := hv.1
    obtain rfl : v = [] := by cases v with | nil => rfl | cons x _ => exact Empty.elim x
    exact copy_zero xa xc 0 w
  | n + 1 => copy_succ n (copyOk n)
end Go.Proofs.Ytigdibglkejciaa.Rank
