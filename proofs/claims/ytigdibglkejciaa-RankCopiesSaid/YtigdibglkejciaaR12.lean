/-
  Few: which values are small.
-/
import Derived.Test.YtigdibglkejciaaR11
namespace Go.Proofs.Ytigdibglkejciaa.Rank
open Go.RowKit

/-- Few terms and fields everywhere. -/
def Small : (n : Nat) → List (Trm n) → Prop
  | 0 => fun _ => True
  | n + 1 => fun v => v.length ≤ 200 ∧ ∀ i (h : i < v.length), v[i].2.length ≤ 100 ∧ ∀ j (g : j < v[i].2.length), Small n v[i].2[j].2
/-- A term that is small. -/
def SmallF (n : Nat) (fs : List (ByteArray × List (Trm n))) : Prop := fs.length ≤ 100 ∧ ∀ j (g : j < fs.length), Small n fs[j].2

def LeftPost (P : Prop) (w : World) (e : Ending) (w' : World) : Prop := ∃ r : Int, -1 ≤ r ∧ r ≤ 200 ∧ (0 ≤ r → P) ∧ e = .returned (.int .i64 r) ∧ Below w.heap.size w w'
def LeftOk (n : Nat) : Prop := ∀ (W : World) (B : Nat) (_ : B ≤ W.heap.size) (xf : Option Addr) (xn xc : Nat) (fs : List (Trm n)) (d m : Int), 0 ≤ d → d ≤ 20 → 0 ≤ m → m ≤ 200 → ValIn W B n xf xn xc fs →
  Calls Try.prog 65 #[.agg #[.slice xf xn xc], .int .i64 d, .int .i64 m] W (LeftPost (Small n fs) W)

theorem left_gone (xa : Option Addr) (xn xc : Nat) (d m : Int) (P : Prop) (w : World) (h : d = 0 ∨ m < xn) :
    Calls Try.prog 65 #[.agg #[.slice xa xn xc], .int .i64 d, .int .i64 m] w (LeftPost P w) := by
  by_cases h0 : d = 0
  · have h1 : ((d : Int) == 0) = true := by simpa using h0
    clear h0 h
    go_enter Try.func65, Try.ntmps65
    go_wp2
    go_ret
    exact ⟨-1, by omega, by omega, fun h => absurd h (by omega), rfl, bel1 _ _⟩
  · have h1 : ((d : Int) == 0) = false := by simpa using h0
    have h2 : m < (xn : Int) := by omega
    clear h0 h
    go_enter Try.func65, Try.ntmps65
    go_wp2
    go_ret
    exact ⟨-1, by omega, by omega, fun h => absurd h (by omega), rfl, bel1 _ _⟩
theorem left_zero : LeftOk 0 := by
  intro w B hB xa xn xc v d m hd0 hd1 hm0 hm1 hv
  obtain rfl : xn = 0 := hv.1
  by_cases h0 : d = 0
  · exact left_gone _ _ _ _ _ _ _ (Or.inl h0)
  have h1 : ((d : Int) == 0) = false := by simpa using h0
  clear hv h0
  go_enter Try.func65, Try.ntmps65
  go_wp2
  go_loop [2, 7] (fun z i => z = .int .i64 m ∧ i = .int .i64 0) (fun _ _ => 0)
  case atStart => exact ⟨rfl, rfl⟩
  case round =>
    obtain ⟨rfl, rfl⟩ := hrel
    go_wp2
    go_ret
    exact ⟨m, by omega, by omega, fun _ => trivial, rfl, bel1 _ _⟩
set_option maxHeartbeats 4000000 in
theorem left_succ (n : Nat) (HW : Hid (LeftOk n)) : LeftOk (n + 1) := by
  intro w B hB xa xn xc v d m hd0 hd1 hm0 hm1 hv
  by_cases hx0 : d = 0 ∨ m < xn
  · exact left_gone _ _ _ _ _ _ _ hx0
  have h1 : ((d : Int) == 0) = false := by simp; omega
  have h2 : (xn : Int) ≤ m := by omega
  have h3 : 1 ≤ d := by omega
  clear hx0
  have el := hv.len
  have m1 : xn ≤ 200 := by omega
  have EL := Lib.hid el
  clear el
  have HV := Lib.hid hv
  clear hv
  go_enter Try.func65, Try.ntmps65
  go_wp2
  obtain ⟨W, hW, hA, hl, hbW⟩ := one_block w #[.slice xa xn xc] 47
  rw [hW]
  clear hW
  clear h2
  go_loopw [2, 7] (fun m' i wr => ∃ (k : Nat) (z : Int), k ≤ xn ∧ i = .int .i64 k ∧ SB W wr ∧ m' = .int .i64 z ∧ -1 ≤ z ∧ z ≤ 200 ∧ Hid (0 ≤ z → ∀ i (h : i < v.length), i < k → SmallF n v[i].2)) (fun _ i _ => xn - (intOf i).toNat)
  case atStart => exact ⟨0, m, Nat.zero_le _, rfl, SB.refl _, rfl, by omega, by omega, fun _ i _ h => absurd h (by omega)⟩
  case round =>
    obtain ⟨k, z, hk1, rfl, ⟨hcl, hbr⟩, rfl, hz1, hz2, hsm⟩ := hrel
    have hsr := hbr.size
    have hA' : ∀ o, wr.cell? ⟨w.heap.size, o, none⟩ = #[.slice xa xn xc][o]? := fun o => (hcl _ _ hl).trans (hA o)
    have hbel : Below w.heap.size w wr := hbW.trans (hbr.mono (by omega))
    have hs := hbel.size
    clear hA hcl
    have hl1' : w.heap.size < wr.heap.size := by omega
    by_cases hlt : k < xn
    · by_cases hz : 0 ≤ z
      · obtain ⟨xb, xo, rfl⟩ := HV.out.some (by omega)
        obtain ⟨ak, al, ah, as_, aa, am, ao, fs, fa, fl, fc, hx, hxb, hxp, hxf⟩ := HV.out.elem k hlt
        have hP : PlAt wr xb xo k ⟨ak, al, ah, as_, aa, am, ao⟩ fa fl fc := hxp.kept (fun o => hbel.cell (p := ⟨xb, o, none⟩) (by show xb < w.heap.size; omega))
        obtain ⟨c0, c1, c2, c3, c4, c5, c6, c7⟩ := hP
        simp only at c0 c1 c2 c3 c4 c5 c6
        have ef := Lib.hid hxf.len
        have mf := hxf.bound
        have HF := Lib.hid hxf
        have i1 : (0 : Int) ≤ (k : Int) := by omega
        have i2 : (k : Int) < (xn : Int) := by omega
        have hl3 : xb < wr.heap.size := by omega
        clear hxp hxf
        by_cases hbig : 400 < as_.size ∨ 100 < fl
        · by_cases hb4 : 400 < as_.size
          · clear hbig
            go_wp2
            go_ret
            exact ⟨-1, by omega, by omega, fun h => absurd h (by omega), rfl, hbel.alloc hs _⟩
          · have hb5 : (100 : Int) < (fl : Int) := by omega
            have hb6 : as_.size ≤ 400 := by omega
            clear hbig hb4
            go_wp2
            go_ret
            exact ⟨-1, by omega, by omega, fun h => absurd h (by omega), rfl, hbel.alloc hs _⟩
        · have hb5 : fl ≤ 100 := by omega
          have hb6 : as_.size ≤ 400 := by omega
          clear hbig
          have hb7 : Below w.heap.size w (wr.alloc (.cells #[.int .i64 ak, .int .i64 al, .int .i64 ah, .string as_, .bool aa, .bool am, .bool ao, .slice fa fl fc] 33)) := hbel.alloc hs _
          go_wp2
          obtain ⟨W1, hW1, hC, hl4, hbW1⟩ := one_block wr #[.int .i64 ak, .int .i64 al, .int .i64 ah, .string as_, .bool aa, .bool am, .bool ao, .slice fa fl fc] 33
          rw [hW1] at hb7 ⊢
          clear hW1
          obtain ⟨wo, hwo⟩ : ∃ wo : World, wo = wr := ⟨_, rfl⟩
          subst hwo
          have hA1 : ∀ o, W1.cell? ⟨w.heap.size, o, none⟩ = #[.slice (some ⟨xb, xo, none⟩) xn xc][o]? := fun o => (hbW1.cell (p := ⟨w.heap.size, o, none⟩) hl1').trans (hA' o)
          have hs7 := hb7.size
          have hsW := hbW1.size
          clear c0 c1 c2 c3 c4 c5 c6 c7 hA'
          go_loopw [2, 9] (fun m' i wr => ∃ (j : Nat) (y : Int), j ≤ fl ∧ i = .int .i64 j ∧ SB W1 wr ∧ m' = .int .i64 y ∧ -1 ≤ y ∧ y ≤ 200 ∧ Hid (0 ≤ y → ∀ i (h : i < fs.length), i < j → Small n fs[i].2)) (fun _ i _ => fl - (intOf i).toNat)
          case atStart => exact ⟨0, z - 1, Nat.zero_le _, rfl, SB.refl _, rfl, by omega, by omega, fun _ i _ h => absurd h (by omega)⟩
          case round =>
            obtain ⟨j, y, hj1, rfl, ⟨hcl2, hbr2⟩, rfl, hy1, hy2, hsm2⟩ := hrel
            have hC' : ∀ o, wr.cell? ⟨wo.heap.size, o, none⟩ = #[.int .i64 ak, .int .i64 al, .int .i64 ah, .string as_, .bool aa, .bool am, .bool ao, .slice fa fl fc][o]? := fun o => (hcl2 _ _ hl4).trans (hC o)
            have hs3 := hbr2.size
            have hbel2 : Below w.heap.size w wr := hb7.trans (hbr2.mono (by omega))
            have hs2 := hbel2.size
            have hbrW : Below W.heap.size W wr := (hbr.trans (hbW1.mono hsr)).trans (hbr2.mono (by omega))
            clear hC hcl2
            have hl5 : wo.heap.size < wr.heap.size := by omega
            by_cases hjlt : j < fl
            · by_cases hyz : 0 ≤ y
              · obtain ⟨fb, fo, rfl⟩ := HF.out.some (by omega)
                obtain ⟨ss, gs, ga, gl, gc, hy, hyb, hy0, hy3, hyf⟩ := HF.out.elem j hjlt
                have K1 := fun o => hbel2.cell (p := ⟨fb, o, none⟩) (by show fb < w.heap.size; omega)
                have d0 := (K1 _).trans hy0
                have d1 := (K1 _).trans hy3
                clear hy0 hy3 K1
                have i3 : (0 : Int) ≤ (j : Int) := by omega
                have i4 : (j : Int) < (fl : Int) := by omega
                have hl6 : fb < wr.heap.size := by omega
                by_cases hb8 : 100 < ss.size
                · go_wp2
                  go_ret
                  exact ⟨-1, by omega, by omega, fun h => absurd h (by omega), rfl, hbel2⟩
                · have hb9 : ss.size ≤ 100 := by omega
                  clear hb8
                  have HC : ∀ W, Below wr.heap.size wr W → Calls Try.prog 65 #[.agg #[.slice ga gl gc], .int .i64 (d - 1), .int .i64 y] W (LeftPost (Small n gs) W) := fun W hW => (HW.out : LeftOk n) W B (by have := hW.size; omega) ga gl gc gs (d - 1) y (by omega) (by omega) hyz hy2 (hyf.below ((hbel2.mono hB).trans (hW.mono (by omega))))
                  replace HC := Lib.hid HC
                  clear hyf
                  go_wp2_with (go_at_call 65; (with_reducible refine (HC.out _ (by exact Below.refl _ _)).mono ?_); rintro e w2 ⟨r, hr1, hr2, hr3, rfl, hb2⟩)
                  go_roundw
                  case rel =>
                    refine ⟨j + 1, r, by omega, by go_num, SB.of (hbr2.trans (hb2.mono hs3)), rfl, hr1, hr2, fun hr i h hi => ?_⟩
                    by_cases hij : i < j
                    · exact hsm2.out hyz i h hij
                    · obtain rfl : i = j := by omega
                      obtain ⟨g1, e1⟩ := hy.out
                      rw [e1]; exact hr3 hr
                  case measure => simp [intOf]; omega
              · have hz3 : y < 0 := by omega
                have i4 : (j : Int) < (fl : Int) := by omega
                go_wp2
                go_roundw
                case rel => exact ⟨k + 1, y, by omega, by go_num, SB.of hbrW, rfl, hy1, hy2, fun h => absurd h (by omega)⟩
                case measure => simp [intOf]; omega
            · have hge : (fl : Int) ≤ (j : Int) := by omega
              go_wp2
              go_roundw
              case rel =>
                refine ⟨k + 1, y, by omega, by go_num, SB.of hbrW, rfl, hy1, hy2, fun h i g hi => ?_⟩
                by_cases hik : i < k
                · exact hsm.out hz i g hik
                · obtain rfl : i = k := by omega
                  obtain ⟨g1, e1⟩ := hx.out
                  rw [e1]
                  have e2 := ef.out
                  exact ⟨by show fs.length ≤ 100; omega, fun i' h' => hsm2.out h i' h' (by have : i' < fs.length := h'; omega)⟩
              case measure => simp [intOf]; omega
      · have hz3 : z < 0 := by omega
        have i4 : (k : Int) < (xn : Int) := by omega
        go_wp2
        go_ret
        exact ⟨z, by omega, by omega, fun h => absurd h (by omega), rfl, hbel⟩
    · have hge : (xn : Int) ≤ (k : Int) := by omega
      go_wp2
      go_ret
      exact ⟨z, by omega, by omega, fun h => ⟨by have := EL.out; omega, fun i g => hsm.out h i g (by have := EL.out; omega)⟩, rfl, hbel⟩
theorem leftOk : ∀ n, LeftOk n
  | 0 => left_zero
  | n + 1 => left_succ n (leftOk n)

def FewPost (P : Prop) (w : World) (e : Ending) (w' : World) : Prop := ∃ b : Bool, (b = true → P) ∧ e = .returned (.bool b) ∧ Below w.heap.size w w'
theorem few_any (n : Nat) (w : World) (B : Nat) (hB : B ≤ w.heap.size) (xf : Option Addr) (xn xc : Nat) (fs : List (Trm n)) (hx : ValIn w B n xf xn xc fs) :
    Calls Try.prog 32 #[.agg #[.slice xf xn xc]] w (FewPost (Small n fs) w) := by
  have hL : ∀ W, Below w.heap.size w W → Calls Try.prog 65 #[.agg #[.slice xf xn xc], .int .i64 20, .int .i64 200] W (LeftPost (Small n fs) W) :=
    fun W hW => leftOk n W B (by have := hW.size; omega) xf xn xc fs 20 200 (by omega) (by omega) (by omega) (by omega) (hx.below (hW.mono hB))
  have HL := Lib.hid hL
  clear hL hx
  go_enter Try.func32, Try.ntmps32
  go_wp2_with (go_at_call 65; (with_reducible refine (HL.out _ (by exact bel1 _ _)).mono ?_); (rintro e w1 ⟨r, hr1, hr2, hr3, rfl, hb1⟩))
  go_ret
  exact ⟨decide (0 ≤ r), fun h => hr3 (by simpa using h), rfl, (bel1 _ _).trans (hb1.mono (by simp))⟩
end Go.Proofs.Ytigdibglkejciaa.Rank
