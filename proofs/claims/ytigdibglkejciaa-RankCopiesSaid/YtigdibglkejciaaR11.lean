/-
  How deep a value is: Depth, the program's and the reference's.
-/
import Derived.Test.YtigdibglkejciaaR10
namespace Go.Proofs.Ytigdibglkejciaa.Rank
open Go.RowKit

/-- How deep. -/
def depthV : (n : Nat) → List (Trm n) → Int
  | 0 => fun _ => 1
  | n + 1 => fun v => W64 (v.foldl (fun z t => t.2.foldl (fun z f => max z (depthV n f.2)) z) 0 + 1)
def depthF (n : Nat) (fs : List (ByteArray × List (Trm n))) (z : Int) : Int := fs.foldl (fun z f => max z (depthV n f.2)) z
def depthT (n : Nat) (v : List (Trm (n + 1))) : Int := v.foldl (fun z t => depthF n t.2 z) 0
theorem depthF_succ (n : Nat) (l : List (ByteArray × List (Trm n))) (z : Int) (k : Nat) (h : k < l.length) : depthF n (l.take (k + 1)) z = max (depthF n (l.take k) z) (depthV n l[k].2) := by
  unfold depthF; rw [List.take_succ_eq_append_getElem h, List.foldl_append]; rfl
theorem depthT_succ (n : Nat) (l : List (Trm (n + 1))) (k : Nat) (h : k < l.length) : depthT n (l.take (k + 1)) = depthF n l[k].2 (depthT n (l.take k)) := by
  unfold depthT; rw [List.take_succ_eq_append_getElem h, List.foldl_append]; rfl
def DepthOk (n : Nat) : Prop := ∀ (W : World) (B : Nat) (_ : B ≤ W.heap.size) (xf : Option Addr) (xn xc : Nat) (fs : List (Trm n)), ValIn W B n xf xn xc fs →
  Calls Try.prog 47 #[.agg #[.slice xf xn xc]] W fun e w' => e = .returned (.int .i64 (depthV n fs)) ∧ Below W.heap.size W w'
theorem depth_zero : DepthOk 0 := by
  intro w B hB xa xn xc v hv
  obtain rfl : xn = 0 := hv.1
  obtain rfl : v = [] := by cases v with | nil => rfl | cons x _ => exact Empty.elim x
  clear hv
  go_enter Try.func47, Try.ntmps47
  go_wp2
  go_loop [3, 11] (fun m i => m = .int .i64 0 ∧ i = .int .i64 0) (fun _ _ => 0)
  case atStart => exact ⟨rfl, rfl⟩
  case round =>
    obtain ⟨rfl, rfl⟩ := hrel
    go_wp2
    go_ret
    exact ⟨rfl, bel1 _ _⟩
set_option maxHeartbeats 4000000 in
theorem depth_succ (n : Nat) (HW : Hid (DepthOk n)) : DepthOk (n + 1) := by
  intro w B hB xa xn xc v hv
  have el := hv.len
  have m1 := hv.bound
  have EL := Lib.hid el
  clear el
  have HV := Lib.hid hv
  clear hv
  go_enter Try.func47, Try.ntmps47
  go_wp2
  have hb0 : Below w.heap.size w (w.alloc (.cells #[.slice xa xn xc] 47)) := bel1 _ _
  generalize w.alloc (.cells #[.slice xa xn xc] 47) = W0 at hb0 ⊢
  go_loopw [3, 11] (fun m i wr => ∃ k : Nat, k ≤ xn ∧ i = .int .i64 k ∧ Below w.heap.size w wr ∧ m = .int .i64 (depthT n (v.take k))) (fun _ i _ => xn - (intOf i).toNat)
  case atStart => exact ⟨0, Nat.zero_le _, rfl, hb0, rfl⟩
  case round =>
    obtain ⟨k, hk1, rfl, hbel, rfl⟩ := hrel
    have hs := hbel.size
    by_cases hlt : k < xn
    · obtain ⟨xb, xo, rfl⟩ := HV.out.some (by omega)
      obtain ⟨ak, al, ah, as_, aa, am, ao, fs, fa, fl, fc, hx, hxb, hxp, hxf⟩ := HV.out.elem k hlt
      have hP : PlAt wr xb xo k ⟨ak, al, ah, as_, aa, am, ao⟩ fa fl fc := hxp.kept (fun o => hbel.cell (p := ⟨xb, o, none⟩) (by show xb < w.heap.size; omega))
      obtain ⟨c0, c1, c2, c3, c4, c5, c6, c7⟩ := hP
      simp only at c0 c1 c2 c3 c4 c5 c6
      clear hxp
      have i1 : (0 : Int) ≤ (k : Int) := by omega
      have i2 : (k : Int) < (xn : Int) := by omega
      have hl3 : xb < wr.heap.size := by omega
      have ef := Lib.hid hxf.len
      have mf := hxf.bound
      have HF := Lib.hid hxf
      clear hxf
      generalize hz : depthT n (v.take k) = z
      have HZ : Hid (depthT n (v.take (k + 1)) = depthF n fs z) := by
        obtain ⟨g1, e1⟩ := hx.out
        rw [depthT_succ n v k g1, e1, ← hz]; rfl
      clear hz hx
      go_wp2
      have hb1 : Below w.heap.size w (wr.alloc (.cells #[.int .i64 ak, .int .i64 al, .int .i64 ah, .string as_, .bool aa, .bool am, .bool ao, .slice fa fl fc] 33)) := hbel.alloc hs _
      generalize wr.alloc (.cells #[.int .i64 ak, .int .i64 al, .int .i64 ah, .string as_, .bool aa, .bool am, .bool ao, .slice fa fl fc] 33) = W1 at hb1 ⊢
      clear c0 c1 c2 c3 c4 c5 c6 c7
      obtain ⟨wo, hwo⟩ : ∃ wo : World, wo = wr := ⟨_, rfl⟩
      subst hwo
      go_loopw [3, 18] (fun m i wr => ∃ j : Nat, j ≤ fl ∧ i = .int .i64 j ∧ Below w.heap.size w wr ∧ m = .int .i64 (depthF n (fs.take j) z)) (fun _ i _ => fl - (intOf i).toNat)
      case atStart => exact ⟨0, Nat.zero_le _, rfl, hb1, rfl⟩
      case round =>
        obtain ⟨j, hj1, rfl, hbel2, rfl⟩ := hrel
        have hs2 := hbel2.size
        by_cases hjlt : j < fl
        · obtain ⟨fb, fo, rfl⟩ := HF.out.some (by omega)
          obtain ⟨ss, gs, ga, gl, gc, hy, hyb, hy0, hy1, hyf⟩ := HF.out.elem j hjlt
          have K1 := fun o => hbel2.cell (p := ⟨fb, o, none⟩) (by show fb < w.heap.size; omega)
          have d0 := (K1 _).trans hy0
          have d1 := (K1 _).trans hy1
          clear hy0 hy1 K1
          have i3 : (0 : Int) ≤ (j : Int) := by omega
          have i4 : (j : Int) < (fl : Int) := by omega
          have hl4 : fb < wr.heap.size := by omega
          have HC : ∀ W, Below wr.heap.size wr W → Calls Try.prog 47 #[.agg #[.slice ga gl gc]] W fun e w' => e = .returned (.int .i64 (depthV n gs)) ∧ Below W.heap.size W w' := fun W hW => (HW.out : DepthOk n) W B (by have := hW.size; omega) ga gl gc gs (hyf.below ((hbel2.mono hB).trans (hW.mono (by omega))))
          replace HC := Lib.hid HC
          have HD : Hid (depthF n (fs.take (j + 1)) z = max (depthF n (fs.take j) z) (depthV n gs)) := by
            obtain ⟨g1, e1⟩ := hy.out
            rw [depthF_succ n fs z j g1, e1]; rfl
          clear hyf hy
          go_wp2_with (go_at_call 47; (with_reducible refine (HC.out _ (by exact bel1 _ _)).mono ?_); rintro e w2 ⟨rfl, hb2⟩)
          go_roundw
          case rel => exact ⟨j + 1, by omega, by go_num, hbel2.trans (((bel1 _ _).trans (hb2.mono (by simp))).mono hs2), ret_val HD.out.symm⟩
          case measure => simp [intOf]; omega
        · have hE : Hid (depthF n (fs.take j) z = depthF n fs z) := by rw [List.take_of_length_le (by have := ef.out; omega)]; rfl
          have hge : (fl : Int) ≤ (j : Int) := by omega
          go_wp2
          go_roundw
          case rel => exact ⟨k + 1, by omega, by go_num, hbel2, ret_val (by rw [HZ.out, hE.out])⟩
          case measure => simp [intOf]; omega
    · have hE : Hid (wrap64 (depthT n (v.take k) + 1) = depthV (n + 1) v) := by
        rw [List.take_of_length_le (by have := EL.out; omega)]; rfl
      have hge : (xn : Int) ≤ (k : Int) := by omega
      go_wp2
      go_ret
      exact ⟨ret_int hE.out, hbel⟩
theorem depthOk : ∀ n, DepthOk n
  | 0 => depth_zero
  | n + 1 => depth_succ n (depthOk n)

def DepthRefOk (n : Nat) : Prop := ∀ (W : World) (B : Nat) (_ : B ≤ W.heap.size) (xf : Option Addr) (xn xc : Nat) (fs : List (Trm n)), ValIn W B n xf xn xc fs →
  Calls Try.prog 48 #[.agg #[.slice xf xn xc]] W fun e w' => e = .returned (.int .i64 (depthV n fs)) ∧ Below W.heap.size W w'
theorem depthR_zero : DepthRefOk 0 := by
  intro w B hB xa xn xc v hv
  obtain rfl : xn = 0 := hv.1
  obtain rfl : v = [] := by cases v with | nil => rfl | cons x _ => exact Empty.elim x
  clear hv
  go_enter Try.func48, Try.ntmps48
  go_wp2
  go_loop [3, 4] (fun m i => m = .int .i64 0 ∧ i = .int .i64 0) (fun _ _ => 0)
  case atStart => exact ⟨rfl, rfl⟩
  case round =>
    obtain ⟨rfl, rfl⟩ := hrel
    go_wp2
    go_ret
    exact ⟨rfl, bel1 _ _⟩
set_option maxHeartbeats 4000000 in
theorem depthR_succ (n : Nat) (HW : Hid (DepthRefOk n)) : DepthRefOk (n + 1) := by
  intro w B hB xa xn xc v hv
  have el := hv.len
  have m1 := hv.bound
  have EL := Lib.hid el
  clear el
  have HV := Lib.hid hv
  clear hv
  go_enter Try.func48, Try.ntmps48
  go_wp2
  obtain ⟨W, hW, hA, hl, hbW⟩ := one_block w #[.slice xa xn xc] 47
  rw [hW]
  clear hW
  go_loopw [3, 4] (fun m i wr => ∃ k : Nat, k ≤ xn ∧ i = .int .i64 k ∧ SB W wr ∧ m = .int .i64 (depthT n (v.take k))) (fun _ i _ => xn - (intOf i).toNat)
  case atStart => exact ⟨0, Nat.zero_le _, rfl, SB.refl _, rfl⟩
  case round =>
    obtain ⟨k, hk1, rfl, ⟨hcl, hbr⟩, rfl⟩ := hrel
    have hsr := hbr.size
    have hA' : ∀ o, wr.cell? ⟨w.heap.size, o, none⟩ = #[.slice xa xn xc][o]? := fun o => (hcl _ _ hl).trans (hA o)
    have hbel : Below w.heap.size w wr := hbW.trans (hbr.mono (by omega))
    have hs := hbel.size
    clear hA hcl
    have hl1' : w.heap.size < wr.heap.size := by omega
    by_cases hlt : k < xn
    · obtain ⟨xb, xo, rfl⟩ := HV.out.some (by omega)
      obtain ⟨ak, al, ah, as_, aa, am, ao, fs, fa, fl, fc, hx, hxb, hxp, hxf⟩ := HV.out.elem k hlt
      have hP : PlAt wr xb xo k ⟨ak, al, ah, as_, aa, am, ao⟩ fa fl fc := hxp.kept (fun o => hbel.cell (p := ⟨xb, o, none⟩) (by show xb < w.heap.size; omega))
      obtain ⟨c0, c1, c2, c3, c4, c5, c6, c7⟩ := hP
      simp only at c0 c1 c2 c3 c4 c5 c6
      clear hxp c0 c1 c2 c3 c4 c5 c6
      have i1 : (0 : Int) ≤ (k : Int) := by omega
      have i2 : (k : Int) < (xn : Int) := by omega
      have hl3 : xb < wr.heap.size := by omega
      have ef := Lib.hid hxf.len
      have mf := hxf.bound
      have HF := Lib.hid hxf
      clear hxf
      generalize hz : depthT n (v.take k) = z
      have HZ : Hid (depthT n (v.take (k + 1)) = depthF n fs z) := by
        obtain ⟨g1, e1⟩ := hx.out
        rw [depthT_succ n v k g1, e1, ← hz]; rfl
      clear hz hx
      go_wp2
      obtain ⟨wo, hwo⟩ : ∃ wo : World, wo = wr := ⟨_, rfl⟩
      subst hwo
      clear c7
      go_loopw [3, 6] (fun m i wr => ∃ j : Nat, j ≤ fl ∧ i = .int .i64 j ∧ SB wo wr ∧ m = .int .i64 (depthF n (fs.take j) z)) (fun _ i _ => fl - (intOf i).toNat)
      case atStart => exact ⟨0, Nat.zero_le _, rfl, SB.refl _, rfl⟩
      case round =>
        obtain ⟨j, hj1, rfl, ⟨hcl2, hbr2⟩, rfl⟩ := hrel
        have hbel2 : Below w.heap.size w wr := hbel.trans (hbr2.mono (by omega))
        have hs2 := hbel2.size
        have hs3 := hbr2.size
        by_cases hjlt : j < fl
        · obtain ⟨fb, fo, rfl⟩ := HF.out.some (by omega)
          obtain ⟨ss, gs, ga, gl, gc, hy, hyb, hy0, hy1, hyf⟩ := HF.out.elem j hjlt
          have K1 := fun o => hbel2.cell (p := ⟨fb, o, none⟩) (by show fb < w.heap.size; omega)
          have d0 := (K1 _).trans hy0
          have d1 := (K1 _).trans hy1
          clear hy0 hy1 K1 hcl2
          have i3 : (0 : Int) ≤ (j : Int) := by omega
          have i4 : (j : Int) < (fl : Int) := by omega
          have hl4 : fb < wr.heap.size := by omega
          have HC : ∀ W, Below wr.heap.size wr W → Calls Try.prog 48 #[.agg #[.slice ga gl gc]] W fun e w' => e = .returned (.int .i64 (depthV n gs)) ∧ Below W.heap.size W w' := fun W hW => (HW.out : DepthRefOk n) W B (by have := hW.size; omega) ga gl gc gs (hyf.below ((hbel2.mono hB).trans (hW.mono (by omega))))
          replace HC := Lib.hid HC
          have HD : Hid (depthF n (fs.take (j + 1)) z = max (depthF n (fs.take j) z) (depthV n gs)) := by
            obtain ⟨g1, e1⟩ := hy.out
            rw [depthF_succ n fs z j g1, e1]; rfl
          clear hyf hy
          generalize hmx : depthF n (fs.take j) z = mx at HD ⊢
          generalize hdx : depthV n gs = dx at HC HD
          clear hmx hdx
          by_cases hg : mx < dx
          · have HM : Hid (max mx dx = dx) := by show _ = _; omega
            go_wp2_with (go_at_call 48; (with_reducible refine (HC.out _ (by exact Below.refl _ _)).mono ?_); rintro e w2 ⟨rfl, hb2⟩)
            go_roundw
            case rel => exact ⟨j + 1, by omega, by go_num, SB.of (hbr2.trans (hb2.mono hs3)), ret_val (by rw [HD.out, HM.out])⟩
            case measure => simp [intOf]; omega
          · have HM : Hid (max mx dx = mx) := by show _ = _; omega
            go_wp2_with (go_at_call 48; (with_reducible refine (HC.out _ (by exact Below.refl _ _)).mono ?_); rintro e w2 ⟨rfl, hb2⟩)
            go_roundw
            case rel => exact ⟨j + 1, by omega, by go_num, SB.of (hbr2.trans (hb2.mono hs3)), ret_val (by rw [HD.out, HM.out])⟩
            case measure => simp [intOf]; omega
        · have hE : Hid (depthF n (fs.take j) z = depthF n fs z) := by rw [List.take_of_length_le (by have := ef.out; omega)]; rfl
          have hge : (fl : Int) ≤ (j : Int) := by omega
          go_wp2
          go_roundw
          case rel => exact ⟨k + 1, by omega, by go_num, SB.of (hbr.trans (hbr2.mono hsr)), ret_val (by rw [HZ.out, hE.out])⟩
          case measure => simp [intOf]; omega
    · have hE : Hid (wrap64 (1 + depthT n (v.take k)) = depthV (n + 1) v) := by
        rw [List.take_of_length_le (by have := EL.out; omega), Int.add_comm]; rfl
      have hge : (xn : Int) ≤ (k : Int) := by omega
      go_wp2
      go_ret
      exact ⟨ret_int hE.out, hbel⟩
theorem depthRefOk : ∀ n, DepthRefOk n
  | 0 => depthR_zero
  | n + 1 => depthR_succ n (depthRefOk n)
end Go.Proofs.Ytigdibglkejciaa.Rank
