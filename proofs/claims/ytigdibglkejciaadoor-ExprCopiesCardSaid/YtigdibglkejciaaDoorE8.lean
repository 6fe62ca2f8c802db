/-
  Few; the size of an expression in the reference: Parts, All.
-/
import Derived.Test.YtigdibglkejciaaDoorE7
namespace Go.Proofs.YtigdibglkejciaaDoor.Ex
open Go.RowKit Go
set_option linter.unusedSimpArgs false

theorem left_ok : ∀ n, LeftOk n
  | 0 => left_zero
  | n + 1 => left_succ n (Lib.hid (left_ok n))
def FewPost (n : Nat) (x : Ex n) (w : World) (e : Ending) (w' : World) : Prop := ∃ b : Bool, e = .returned (.bool b) ∧ (b = true → SmallE n 24 x ∧ cnt n x ≤ 200) ∧ Below w.heap.size w w'
theorem few_any (n : Nat) (w : World) (B : Nat) (v : V7) (x : Ex n) (hB : B ≤ w.heap.size) (hx : ExIn w B n v x) :
    Calls Tryd.prog 6 #[.agg #[.int .i64 v.op, .int .i64 v.num, .string v.tx, .slice v.pa v.pl v.pc, .slice v.qa v.ql v.qc, .bool v.opn, .slice v.ka v.kl v.kc]] w (FewPost n x w) := by
  have hb := bel1 w (.cells #[.int .i64 v.op, .int .i64 v.num, .string v.tx, .slice v.pa v.pl v.pc, .slice v.qa v.ql v.qc, .bool v.opn, .slice v.ka v.kl v.kc] 26)
  have hs := hb.size
  have HC := Lib.hid (show Calls Tryd.prog 25 #[.agg #[.int .i64 v.op, .int .i64 v.num, .string v.tx, .slice v.pa v.pl v.pc, .slice v.qa v.ql v.qc, .bool v.opn, .slice v.ka v.kl v.kc], .int .i64 24, .int .i64 200] (w.alloc (.cells #[.int .i64 v.op, .int .i64 v.num, .string v.tx, .slice v.pa v.pl v.pc, .slice v.qa v.ql v.qc, .bool v.opn, .slice v.ka v.kl v.kc] 26)) (LeftPost n x 24 200 (w.alloc (.cells #[.int .i64 v.op, .int .i64 v.num, .string v.tx, .slice v.pa v.pl v.pc, .slice v.qa v.ql v.qc, .bool v.opn, .slice v.ka v.kl v.kc] 26))) from left_ok n (w.alloc (.cells #[.int .i64 v.op, .int .i64 v.num, .string v.tx, .slice v.pa v.pl v.pc, .slice v.qa v.ql v.qc, .bool v.opn, .slice v.ka v.kl v.kc] 26)) B v x 24 200 (by omega) (by omega) (by omega) (ExIn.kept (hb.mono hB) n _ _ hx))
  clear hx
  go_enter Tryd.func6, Tryd.ntmps6
  go_wp2_with (go_at_call 25; (with_reducible refine HC.out.mono ?_); rintro e W2 ⟨r, rfl, hr, hsm, hb2⟩)
  go_ret
  refine ⟨_, rfl, fun h => ?_, hb.trans (hb2.mono hs)⟩
  have h0 : 0 ≤ r := by simpa using h
  obtain ⟨h1, h2⟩ := hsm h0
  exact ⟨h1, by omega⟩
end Go.Proofs.YtigdibglkejciaaDoor.Ex
