/-
  Terms as plain data, and the contracts of the small functions over them (scalar, treillageref07).
-/
import Derived.Test.YtigdibglkejciaaProg
import Derived.WalkKit
import Derived.OwnWalk
import Derived.Below
import Derived.LoopTactic
import Derived.KernelRfl
import Derived.Outline
import Derived.Lib.Hide
import Derived.Deep.QuietTactic
import Derived.BigQuiet
import Derived.Deep.RegionHeld3
import Derived.Deep.DeepCutAuto
namespace Go.Proofs.Ytigdibglkejciaa.Sca
open Go.RowKit

/-- A term: its plain fields, and its fields' slice as it lies in memory. -/
structure T where
  kind : Int
  lo : Int
  hi : Int
  text : ByteArray
  any : Bool
  maybe : Bool
  opn : Bool
  fa : Option Addr
  fl : Nat
  fc : Nat

/-- What a callee that only makes memory leaves: old cells read as before, and the heap is no less. -/
theorem bcell {W w1 : World} (hb : Below W.heap.size W w1) : (∀ b o, b < W.heap.size → w1.cell? ⟨b, o, none⟩ = W.cell? ⟨b, o, none⟩) ∧ (∀ b o, b < W.heap.size → w1.frozen? ⟨b, o, none⟩ = W.frozen? ⟨b, o, none⟩) :=
  ⟨fun b o h => hb.cell (p := ⟨b, o, none⟩) h, fun b o h => hb.frozen (p := ⟨b, o, none⟩) h⟩
theorem ret_bool {a b : Bool} (h : a = b) : Ending.returned (.bool a) = .returned (.bool b) := by rw [h]

def short (s : ByteArray) (n : Nat) : Bool := decide ((s.size : Int) ≤ 400) && decide ((n : Int) ≤ 10)
def bare (o : Bool) (n : Nat) : Bool := !o && (n : Int) == 0
def one (k l h : Int) (a : Bool) : Bool := if k == 3 then !a else l == h
/-- Is a term a scalar that is right? -/
def right (k l h : Int) (s : ByteArray) (a m o : Bool) (n : Nat) : Bool :=
  bare o n && !(m && one k l h a) &&
    (if k == 3 then l == 0 && h == 0 && (a && s.toList.isEmpty || !a && decide ((s.size : Int) ≤ 256))
     else if k == 2 then decide (-9007199254740992 ≤ l) && decide (l ≤ h) && decide (h ≤ 9007199254740992) && s.toList.isEmpty && !a
     else if k == 1 then decide (0 ≤ l) && decide (l ≤ h) && decide (h ≤ 1) && s.toList.isEmpty && !a
     else false)

theorem short_any (xk xl xh : Int) (xs : ByteArray) (xa xm xo : Bool) (xf : Option Addr) (xn xc : Nat) (w : World) :
    Calls Try.prog 18 #[.agg #[.int .i64 xk, .int .i64 xl, .int .i64 xh, .string xs, .bool xa, .bool xm, .bool xo, .slice xf xn xc]] w fun e w' => e = .returned (.bool (short xs xn)) ∧ Below w.heap.size w w' := by
  by_cases h : (xs.size : Int) ≤ 400
  all_goals
    go_enter Try.func18, Try.ntmps18
    go_wp2
    go_ret
    exact ⟨ret_bool (by simp [short] <;> omega), (Below.refl _ _).alloc (Nat.le_refl _) _⟩
theorem bare_any (xk xl xh : Int) (xs : ByteArray) (xa xm xo : Bool) (xf : Option Addr) (xn xc : Nat) (w : World) :
    Calls Try.prog 61 #[.agg #[.int .i64 xk, .int .i64 xl, .int .i64 xh, .string xs, .bool xa, .bool xm, .bool xo, .slice xf xn xc]] w fun e w' => e = .returned (.bool (bare xo xn)) ∧ Below w.heap.size w w' := by
  cases xo
  all_goals
    go_enter Try.func61, Try.ntmps61
    go_wp2
    go_ret
    exact ⟨ret_bool (by simp [bare]), (Below.refl _ _).alloc (Nat.le_refl _) _⟩
theorem one_any (xk xl xh : Int) (xs : ByteArray) (xa xm xo : Bool) (xf : Option Addr) (xn xc : Nat) (w : World) :
    Calls Try.prog 62 #[.agg #[.int .i64 xk, .int .i64 xl, .int .i64 xh, .string xs, .bool xa, .bool xm, .bool xo, .slice xf xn xc]] w fun e w' => e = .returned (.bool (one xk xl xh xa)) ∧ Below w.heap.size w w' := by
  cases hk : (xk == 3)
  all_goals
    go_enter Try.func62, Try.ntmps62
    go_wp2
    go_ret
    exact ⟨ret_bool (by simp only [one, hk]; simp), (Below.refl _ _).alloc (Nat.le_refl _) _⟩
theorem single_any (xk xl xh : Int) (xs : ByteArray) (xa xm xo : Bool) (xf : Option Addr) (xn xc : Nat) (w : World) :
    Calls Try.prog 23 #[.agg #[.int .i64 xk, .int .i64 xl, .int .i64 xh, .string xs, .bool xa, .bool xm, .bool xo, .slice xf xn xc]] w fun e w' => e = .returned (.bool (one xk xl xh xa)) ∧ Below w.heap.size w w' := by
  cases hk : (xk == 3)
  all_goals
    go_enter Try.func23, Try.ntmps23
    go_wp2
    go_ret
    exact ⟨ret_bool (by simp only [one, hk]; simp), (Below.refl _ _).alloc (Nat.le_refl _) _⟩
set_option maxHeartbeats 2000000 in
theorem right_any (xk xl xh : Int) (xs : ByteArray) (xa xm xo : Bool) (xf : Option Addr) (xn xc : Nat) (w : World) :
    Calls Try.prog 21 #[.agg #[.int .i64 xk, .int .i64 xl, .int .i64 xh, .string xs, .bool xa, .bool xm, .bool xo, .slice xf xn xc]] w fun e w' => e = .returned (.bool (right xk xl xh xs xa xm xo xn)) ∧ Below w.heap.size w w' := by
  go_enter Try.func21, Try.ntmps21
  go_wp2_with (first | (go_at_call 61; refine (bare_any _ _ _ _ _ _ _ _ _ _ _).mono ?_; rintro e w1 ⟨rfl, hb_w1⟩; obtain ⟨hc_w1, hf_w1⟩ := bcell hb_w1; have hs_w1 := hb_w1.size; (try simp only [World.size_alloc] at hs_w1); have hk_w1_0 : w.heap.size < w1.heap.size := (by omega)) | (go_at_call 62; refine (one_any _ _ _ _ _ _ _ _ _ _ _).mono ?_; rintro e w2 ⟨rfl, hb_w2⟩; obtain ⟨hc_w2, hf_w2⟩ := bcell hb_w2; have hs_w2 := hb_w2.size; (try simp only [World.size_alloc] at hs_w2); have hk_w2_0 : w.heap.size < w2.heap.size := (by omega)))
  all_goals go_ret
  all_goals refine ⟨ret_bool ?_, ?_⟩
  all_goals first | (simp [right, *]; done) | (simp [right, *]; intros; omega) | (simp [right, one, *]; done) | (exfalso; have hone := ‹one xk xl xh xa = false›; simp [one, *] at hone; done) | ((repeat (first | exact Below.refl _ _ | assumption | (refine Below.alloc ?_ (by first | omega | (simp; done) | (simp; omega)) _) | (refine Below.setCell ?_ (by first | omega | (simp; done) | (simp; omega)) _) | (refine Below.trans ?_ (Below.mono (by assumption) (by first | omega | (simp; done) | (simp; omega)))))); done)
end Go.Proofs.Ytigdibglkejciaa.Sca
