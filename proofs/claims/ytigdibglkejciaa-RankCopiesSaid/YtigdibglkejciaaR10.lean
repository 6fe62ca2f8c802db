/-
  How great a value is: Weight, the program's and the reference's.
-/
import Derived.Test.YtigdibglkejciaaR9
namespace Go.Proofs.Ytigdibglkejciaa.Rank
open Go.RowKit

theorem same_any (n : Nat) (w : World) (B : Nat) (hB : B ≤ w.heap.size) (xf : Option Addr) (xn xc : Nat) (yf : Option Addr) (yn yc : Nat) (fs gs : List (Trm n)) (hx : ValIn w B n xf xn xc fs) (hy : ValIn w B n yf yn yc gs) :
    Calls Try.prog 43 #[.agg #[.slice xf xn xc], .agg #[.slice yf yn yc]] w fun e w' => e = .returned (.bool (cmpV n fs gs == 0)) ∧ Below w.heap.size w w' := by
  have hL : ∀ W, Below w.heap.size w W → Calls Try.prog 34 #[.agg #[.slice xf xn xc], .agg #[.slice yf yn yc]] W fun e w' => e = .returned (.int .i64 (cmpV n fs gs)) ∧ Below W.heap.size W w' :=
    fun W hW => compareOk n W B (by have := hW.size; omega) xf xn xc yf yn yc fs gs (hx.below (hW.mono hB)) (hy.below (hW.mono hB))
  have HL := Lib.hid hL
  clear hL hx hy
  go_enter Try.func43, Try.ntmps43
  go_wp2_with (go_at_call 34; (with_reducible refine (HL.out _ (by exact bel2 _ _ _)).mono ?_); (rintro e w1 ⟨rfl, hb1⟩))
  go_ret
  exact ⟨rfl, (bel2 _ _ _).trans (hb1.mono (by simp; omega))⟩
theorem sameR_any (n : Nat) (w : World) (B : Nat) (hB : B ≤ w.heap.size) (xf : Option Addr) (xn xc : Nat) (yf : Option Addr) (yn yc : Nat) (fs gs : List (Trm n)) (hx : ValIn w B n xf xn xc fs) (hy : ValIn w B n yf yn yc gs) :
    Calls Try.prog 44 #[.agg #[.slice xf xn xc], .agg #[.slice yf yn yc]] w fun e w' => e = .returned (.bool (cmpV n fs gs == 0)) ∧ Below w.heap.size w w' := by
  have hL : ∀ W, Below w.heap.size w W → Calls Try.prog 42 #[.agg #[.slice xf xn xc], .agg #[.slice yf yn yc]] W fun e w' => e = .returned (.int .i64 (cmpV n fs gs)) ∧ Below W.heap.size W w' :=
    fun W hW => compareRefOk n W B (by have := hW.size; omega) xf xn xc yf yn yc fs gs (hx.below (hW.mono hB)) (hy.below (hW.mono hB))
  have HL := Lib.hid hL
  clear hL hx hy
  go_enter Try.func44, Try.ntmps44
  go_wp2_with (go_at_call 42; (with_reducible refine (HL.out _ (by exact bel2 _ _ _)).mono ?_); (rintro e w1 ⟨rfl, hb1⟩))
  go_ret
  exact ⟨rfl, (bel2 _ _ _).trans (hb1.mono (by simp; omega))⟩

/-- A number that has been put into 64 bits. -/
def W64 (x : Int) : Int := wrap64 x
theorem W64_sum (a b c : Int) (h : a + b = c) : wrap64 (W64 a + W64 b) = W64 c := by subst h; unfold W64 wrap64; omega
theorem W64_sum1 (a b c : Int) (h : a + b = c) : wrap64 (W64 a + b) = W64 c := by subst h; unfold W64 wrap64; omega
theorem W64_zero (x : Int) (h : x = 0) : W64 x = 0 := by subst h; unfold W64 wrap64; omega
/-- How many terms. -/
def weightV : (n : Nat) → List (Trm n) → Nat
  | 0 => fun _ => 0
  | n + 1 => fun v => v.length + (v.map fun t => (t.2.map fun f => weightV n f.2).sum).sum
def weightF (n : Nat) (fs : List (ByteArray × List (Trm n))) : Nat := (fs.map fun f => weightV n f.2).sum
def weightT (n : Nat) (v : List (Trm (n + 1))) : Nat := (v.map fun t => weightF n t.2).sum
theorem sum_take_succ {α : Type} (g : α → Nat) (l : List α) (k : Nat) (h : k < l.length) : ((l.take (k + 1)).map g).sum = ((l.take k).map g).sum + g l[k] := by
  rw [List.take_succ_eq_append_getElem h, List.map_append, List.sum_append]; simp
theorem weightF_succ (n : Nat) (l : List (ByteArray × List (Trm n))) (k : Nat) (h : k < l.length) : weightF n (l.take (k + 1)) = weightF n (l.take k) + weightV n l[k].2 := sum_take_succ _ l k h
theorem weightT_succ (n : Nat) (l : List (Trm (n + 1))) (k : Nat) (h : k < l.length) : weightT n (l.take (k + 1)) = weightT n (l.take k) + weightF n l[k].2 := sum_take_succ _ l k h

def WeightOk (n : Nat) : Prop := ∀ (W : World) (B : Nat) (_ : B ≤ W.heap.size) (xf : Option Addr) (xn xc : Nat) (fs : List (Trm n)), ValIn W B n xf xn xc fs →
  Calls Try.prog 45 #[.agg #[.slice xf xn xc]] W fun e w' => e = .returned (.int .i64 (W64 (weightV n fs))) ∧ Below W.heap.size W w'

theorem FsIn.some {w : World} {B n len cap : Nat} {a : Option Addr} {v : List (ByteArray × List (Trm n))} (h : FsIn w B n a len cap v) (hl : 0 < len) : ∃ b off, a = some ⟨b, off, none⟩ := by
  obtain ⟨b, off, e, _⟩ := h.2.2.2.2 (by intro h0; have := h.1; rw [h0] at this; simp at this; omega)
  exact ⟨b, off, e⟩
theorem ValIn.some {w : World} {B n len cap : Nat} {a : Option Addr} {v : List (Trm (n + 1))} (h : ValIn w B (n + 1) a len cap v) (hl : 0 < len) : ∃ b off, a = some ⟨b, off, none⟩ := by
  obtain ⟨b, off, e, _⟩ := h.2.2.2.2 (by intro h0; have := h.1; rw [h0] at this; simp at this; omega)
  exact ⟨b, off, e⟩

theorem W64_in (x : Int) (h1 : -9223372036854775808 ≤ x) (h2 : x ≤ 9223372036854775807) : W64 x = x := by
  unfold W64 wrap64; omega
theorem ret_val {a b : Int} (h : a = b) : Value.int .i64 a = .int .i64 b := by rw [h]
theorem weight_zero : WeightOk 0 := by
  intro w B hB xa xn xc v hv
  obtain rfl : xn = 0 := hv.1
  obtain rfl : v = [] := by cases v with | nil => rfl | cons x _ => exact Empty.elim x
  clear hv
  go_enter Try.func45, Try.ntmps45
  go_wp2
  go_loop [3, 14] (fun m i => m = .int .i64 0 ∧ i = .int .i64 0) (fun _ _ => 0)
  case atStart => exact ⟨rfl, rfl⟩
  case round =>
    obtain ⟨rfl, rfl⟩ := hrel
    go_wp2
    go_ret
    exact ⟨ret_int (W64_zero _ rfl).symm, bel1 _ _⟩
set_option maxHeartbeats 4000000 in
theorem weight_succ (n : Nat) (HW : Hid (WeightOk n)) : WeightOk (n + 1) := by
  intro w B hB xa xn xc v hv
  have el := hv.len
  have m1 := hv.bound
  have EL := Lib.hid el
  have h00 : Value.int .i64 (xn : Int) = .int .i64 (W64 (v.length + weightT n (v.take 0))) := ret_val (by
    have ez : (v.length : Int) + weightT n (v.take 0) = xn := by simp [weightT]; omega
    rw [ez, W64_in _ (by omega) (by omega)])
  have H00 := Lib.hid h00
  clear el h00
  have HV := Lib.hid hv
  clear hv
  go_enter Try.func45, Try.ntmps45
  go_wp2
  have hb0 : Below w.heap.size w (w.alloc (.cells #[.slice xa xn xc] 47)) := bel1 _ _
  generalize w.alloc (.cells #[.slice xa xn xc] 47) = W0 at hb0 ⊢
  go_loopw [3, 14] (fun m i wr => ∃ k : Nat, k ≤ xn ∧ i = .int .i64 k ∧ Below w.heap.size w wr ∧ m = .int .i64 (W64 (v.length + weightT n (v.take k)))) (fun _ i _ => xn - (intOf i).toNat)
  case atStart => exact ⟨0, Nat.zero_le _, rfl, hb0, H00.out⟩
  case round =>
    obtain ⟨k, hk1, rfl, hbel, rfl⟩ := hrel
    have hs := hbel.size
    by_cases hlt : k < xn
    · obtain ⟨xb, xo, rfl⟩ := HV.out.some (by omega)
      obtain ⟨ak, al, ah, as_, aa, am, ao, fs, fa, fl, fc, hx, hxb, hxp, hxf⟩ := HV.out.elem k hlt
      have hP : PlAt wr xb xo k ⟨ak, al, ah, as_, aa, am, ao⟩ fa fl fc := hxp.kept (fun o => hbel.cell (p := ⟨xb, o, none⟩) (by show xb < w.heap.size; omega))
      obtain ⟨c0, c1, c2, c3, c4, c5, c6, c7⟩ := hP
      simp only at c0 c1 c2 c3 c4 c5 c6
      clear hxp
      have i1 : (0 : Int) ≤ (k : Int) := by omega
      have i2 : (k : Int) < (xn : Int) := by omega
      have hl3 : xb < wr.heap.size := by omega
      have ef := Lib.hid hxf.len
      have mf := hxf.bound
      have HF := Lib.hid hxf
      clear hxf
      generalize hz : ((v.length : Int) + weightT n (v.take k)) = z
      have HZ : Hid (((v.length : Int) + weightT n (v.take (k + 1))) = z + weightF n fs) := by
        obtain ⟨g1, e1⟩ := hx.out
        rw [weightT_succ n v k g1, e1, ← hz, Int.natCast_add, Int.add_assoc]; rfl
      clear hz hx
      go_wp2
      have hb1 : Below w.heap.size w (wr.alloc (.cells #[.int .i64 ak, .int .i64 al, .int .i64 ah, .string as_, .bool aa, .bool am, .bool ao, .slice fa fl fc] 33)) := hbel.alloc hs _
      generalize wr.alloc (.cells #[.int .i64 ak, .int .i64 al, .int .i64 ah, .string as_, .bool aa, .bool am, .bool ao, .slice fa fl fc] 33) = W1 at hb1 ⊢
      clear c0 c1 c2 c3 c4 c5 c6 c7
      obtain ⟨wo, hwo⟩ : ∃ wo : World, wo = wr := ⟨_, rfl⟩
      subst hwo
      go_loopw [3, 21] (fun m i wr => ∃ j : Nat, j ≤ fl ∧ i = .int .i64 j ∧ Below w.heap.size w wr ∧ m = .int .i64 (W64 (z + weightF n (fs.take j)))) (fun _ i _ => fl - (intOf i).toNat)
      case atStart => exact ⟨0, Nat.zero_le _, rfl, hb1, ret_val (by simp [weightF])⟩
      case round =>
        obtain ⟨j, hj1, rfl, hbel2, rfl⟩ := hrel
        have hs2 := hbel2.size
        by_cases hjlt : j < fl
        · obtain ⟨fb, fo, rfl⟩ := HF.out.some (by omega)
          obtain ⟨ss, gs, ga, gl, gc, hy, hyb, hy0, hy1, hyf⟩ := HF.out.elem j hjlt
          have K1 := fun o => hbel2.cell (p := ⟨fb, o, none⟩) (by show fb < w.heap.size; omega)
          have d0 := (K1 _).trans hy0
          have d1 := (K1 _).trans hy1
          clear hy0 hy1 K1
          have i3 : (0 : Int) ≤ (j : Int) := by omega
          have i4 : (j : Int) < (fl : Int) := by omega
          have hl4 : fb < wr.heap.size := by omega
          have HC : ∀ W, Below wr.heap.size wr W → Calls Try.prog 45 #[.agg #[.slice ga gl gc]] W fun e w' => e = .returned (.int .i64 (W64 (weightV n gs))) ∧ Below W.heap.size W w' := fun W hW => (HW.out : WeightOk n) W B (by have := hW.size; omega) ga gl gc gs (hyf.below ((hbel2.mono hB).trans (hW.mono (by omega))))
          replace HC := Lib.hid HC
          have HD : Hid (weightF n (fs.take (j + 1)) = weightF n (fs.take j) + weightV n gs) := by
            obtain ⟨g1, e1⟩ := hy.out
            rw [weightF_succ n fs j g1, e1]; rfl
          clear hyf hy
          go_wp2_with (go_at_call 45; (with_reducible refine (HC.out _ (by exact bel1 _ _)).mono ?_); rintro e w2 ⟨rfl, hb2⟩)
          go_roundw
          case rel => exact ⟨j + 1, by omega, by go_num, hbel2.trans (((bel1 _ _).trans (hb2.mono (by simp))).mono hs2), ret_val (W64_sum _ _ _ (by rw [HD.out, Int.natCast_add, Int.add_assoc]))⟩
          case measure => simp [intOf]; omega
        · have hE : Hid (weightF n (fs.take j) = weightF n fs) := by rw [List.take_of_length_le (by have := ef.out; omega)]; rfl
          have hge : (fl : Int) ≤ (j : Int) := by omega
          go_wp2
          go_roundw
          case rel => exact ⟨k + 1, by omega, by go_num, hbel2, ret_val (by rw [HZ.out, hE.out])⟩
          case measure => simp [intOf]; omega
    · have hE : Hid (W64 (v.length + weightT n (v.take k)) = W64 (weightV (n + 1) v)) := by
        rw [List.take_of_length_le (by have := EL.out; omega)]
        show W64 _ = W64 ((v.length + weightT n v : Nat) : Int)
        rw [Int.natCast_add]
      have hge : (xn : Int) ≤ (k : Int) := by omega
      go_wp2
      go_ret
      exact ⟨ret_int hE.out, hbel⟩
theorem weightOk : ∀ n, WeightOk n
  | 0 => weight_zero
  | n + 1 => weight_succ n (weightOk n)

def WeightRefOk (n : Nat) : Prop := ∀ (W : World) (B : Nat) (_ : B ≤ W.heap.size) (xf : Option Addr) (xn xc : Nat) (fs : List (Trm n)), ValIn W B n xf xn xc fs →
  Calls Try.prog 46 #[.agg #[.slice xf xn xc]] W fun e w' => e = .returned (.int .i64 (W64 (weightV n fs))) ∧ Below W.heap.size W w'
theorem weightR_zero : WeightRefOk 0 := by
  intro w B hB xa xn xc v hv
  obtain rfl : xn = 0 := hv.1
  obtain rfl : v = [] := by cases v with | nil => rfl | cons x _ => exact Empty.elim x
  clear hv
  go_enter Try.func46, Try.ntmps46
  go_wp2
  go_loop [3, 4] (fun m i => m = .int .i64 0 ∧ i = .int .i64 0) (fun _ _ => 0)
  case atStart => exact ⟨rfl, rfl⟩
  case round =>
    obtain ⟨rfl, rfl⟩ := hrel
    go_wp2
    go_ret
    exact ⟨ret_int (W64_zero _ rfl).symm, bel1 _ _⟩
/-- One block. -/
theorem one_block (w : World) (A : Array Value) (T : TypeId) : ∃ W, w.alloc (.cells A T) = W ∧ (∀ o, W.cell? ⟨w.heap.size, o, none⟩ = A[o]?) ∧ w.heap.size < W.heap.size ∧ Below w.heap.size w W := by
  refine ⟨_, rfl, fun o => ?_, by simp, bel1 _ _⟩
  rw [World.cell?_alloc_new]
set_option maxHeartbeats 4000000 in
theorem weightR_succ (n : Nat) (HW : Hid (WeightRefOk n)) : WeightRefOk (n + 1) := by
  intro w B hB xa xn xc v hv
  have el := hv.len
  have m1 := hv.bound
  have EL := Lib.hid el
  clear el
  have HV := Lib.hid hv
  clear hv
  go_enter Try.func46, Try.ntmps46
  go_wp2
  obtain ⟨W, hW, hA, hl, hbW⟩ := one_block w #[.slice xa xn xc] 47
  rw [hW]
  clear hW
  go_loopw [3, 4] (fun m i wr => ∃ k : Nat, k ≤ xn ∧ i = .int .i64 k ∧ SB W wr ∧ m = .int .i64 (W64 (k + weightT n (v.take k)))) (fun _ i _ => xn - (intOf i).toNat)
  case atStart => exact ⟨0, Nat.zero_le _, rfl, SB.refl _, ret_val (W64_zero _ (by simp [weightT])).symm⟩
  case round =>
    obtain ⟨k, hk1, rfl, ⟨hcl, hbr⟩, rfl⟩ := hrel
    have hsr := hbr.size
    have hA' : ∀ o, wr.cell? ⟨w.heap.size, o, none⟩ = #[.slice xa xn xc][o]? := fun o => (hcl _ _ hl).trans (hA o)
    have hbel : Below w.heap.size w wr := hbW.trans (hbr.mono (by omega))
    have hs := hbel.size
    clear hA hcl
    have hl1' : w.heap.size < wr.heap.size := by omega
    by_cases hlt : k < xn
    · obtain ⟨xb, xo, rfl⟩ := HV.out.some (by omega)
      obtain ⟨ak, al, ah, as_, aa, am, ao, fs, fa, fl, fc, hx, hxb, hxp, hxf⟩ := HV.out.elem k hlt
      have hP : PlAt wr xb xo k ⟨ak, al, ah, as_, aa, am, ao⟩ fa fl fc := hxp.kept (fun o => hbel.cell (p := ⟨xb, o, none⟩) (by show xb < w.heap.size; omega))
      obtain ⟨c0, c1, c2, c3, c4, c5, c6, c7⟩ := hP
      simp only at c0 c1 c2 c3 c4 c5 c6
      clear hxp c0 c1 c2 c3 c4 c5 c6
      have i1 : (0 : Int) ≤ (k : Int) := by omega
      have i2 : (k : Int) < (xn : Int) := by omega
      have hl3 : xb < wr.heap.size := by omega
      have ef := Lib.hid hxf.len
      have mf := hxf.bound
      have HF := Lib.hid hxf
      clear hxf
      generalize hz : ((k : Int) + weightT n (v.take k)) = z
      have HZ : Hid ((((k + 1 : Nat) : Int) + weightT n (v.take (k + 1))) = (z + 1) + weightF n fs) := by
        obtain ⟨g1, e1⟩ := hx.out
        rw [weightT_succ n v k g1, e1, ← hz]
        show ((k + 1 : Nat) : Int) + ((weightT n (v.take k) + weightF n fs : Nat) : Int) = _
        omega
      clear hz hx
      go_wp2
      obtain ⟨wo, hwo⟩ : ∃ wo : World, wo = wr := ⟨_, rfl⟩
      subst hwo
      clear c7
      go_loopw [3, 6] (fun m i wr => ∃ j : Nat, j ≤ fl ∧ i = .int .i64 j ∧ SB wo wr ∧ m = .int .i64 (W64 ((z + 1) + weightF n (fs.take j)))) (fun _ i _ => fl - (intOf i).toNat)
      case atStart => exact ⟨0, Nat.zero_le _, rfl, SB.refl _, ret_val (W64_sum1 _ _ _ (by simp [weightF]))⟩
      case round =>
        obtain ⟨j, hj1, rfl, ⟨hcl2, hbr2⟩, rfl⟩ := hrel
        have hbel2 : Below w.heap.size w wr := hbel.trans (hbr2.mono (by omega))
        have hs2 := hbel2.size
        have hs3 := hbr2.size
        by_cases hjlt : j < fl
        · obtain ⟨fb, fo, rfl⟩ := HF.out.some (by omega)
          obtain ⟨ss, gs, ga, gl, gc, hy, hyb, hy0, hy1, hyf⟩ := HF.out.elem j hjlt
          have K1 := fun o => hbel2.cell (p := ⟨fb, o, none⟩) (by show fb < w.heap.size; omega)
          have d0 := (K1 _).trans hy0
          have d1 := (K1 _).trans hy1
          clear hy0 hy1 K1 hcl2
          have i3 : (0 : Int) ≤ (j : Int) := by omega
          have i4 : (j : Int) < (fl : Int) := by omega
          have hl4 : fb < wr.heap.size := by omega
          have HC : ∀ W, Below wr.heap.size wr W → Calls Try.prog 46 #[.agg #[.slice ga gl gc]] W fun e w' => e = .returned (.int .i64 (W64 (weightV n gs))) ∧ Below W.heap.size W w' := fun W hW => (HW.out : WeightRefOk n) W B (by have := hW.size; omega) ga gl gc gs (hyf.below ((hbel2.mono hB).trans (hW.mono (by omega))))
          replace HC := Lib.hid HC
          have HD : Hid (weightF n (fs.take (j + 1)) = weightF n (fs.take j) + weightV n gs) := by
            obtain ⟨g1, e1⟩ := hy.out
            rw [weightF_succ n fs j g1, e1]; rfl
          clear hyf hy
          go_wp2_with (go_at_call 46; (with_reducible refine (HC.out _ (by exact Below.refl _ _)).mono ?_); rintro e w2 ⟨rfl, hb2⟩)
          go_roundw
          case rel => exact ⟨j + 1, by omega, by go_num, SB.of (hbr2.trans (hb2.mono hs3)), ret_val (W64_sum _ _ _ (by rw [HD.out, Int.natCast_add, Int.add_assoc]))⟩
          case measure => simp [intOf]; omega
        · have hE : Hid (weightF n (fs.take j) = weightF n fs) := by rw [List.take_of_length_le (by have := ef.out; omega)]; rfl
          have hge : (fl : Int) ≤ (j : Int) := by omega
          go_wp2
          go_roundw
          case rel => exact ⟨k + 1, by omega, by go_num, SB.of (hbr.trans (hbr2.mono hsr)), ret_val (by rw [HZ.out, hE.out])⟩
          case measure => simp [intOf]; omega
    · have hE : Hid (W64 (k + weightT n (v.take k)) = W64 (weightV (n + 1) v)) := by
        have e0 := EL.out
        rw [List.take_of_length_le (by omega), show k = v.length by omega]
        show W64 _ = W64 ((v.length + weightT n v : Nat) : Int)
        rw [Int.natCast_add]
      have hge : (xn : Int) ≤ (k : Int) := by omega
      go_wp2
      go_ret
      exact ⟨ret_int hE.out, hbel⟩
theorem weightRefOk : ∀ n, WeightRefOk n
  | 0 => weightR_zero
  | n + 1 => weightR_succ n (weightRefOk n)
end Go.Proofs.Ytigdibglkejciaa.Rank
