/-
  A term that came in, opened: its shape.
-/
import Derived.Test.YtigdibglkejciaaProg
import Derived.WalkKit
import Derived.KernelRfl
import Derived.ProofKit
namespace Go.Proofs.Ytigdibglkejciaa.Sca
open Go.RowKit

section
variable {P : Program} {w : World} {r : Reach} {base : Nat} {t : TypeId} {v : Value}
theorem cell_int {k : IntKind} (ht : P.underlying t = some (.int k)) (h : Cell.okWide P w r base t v) : ∃ n, v = .int k n := by
  simp only [Cell.okWide, ht] at h
  cases v <;> simp_all [Cell.ok]
theorem cell_bool (ht : P.underlying t = some .bool) (h : Cell.okWide P w r base t v) : ∃ b, v = .bool b := by
  simp only [Cell.okWide, ht] at h
  cases v <;> simp_all [Cell.ok]
theorem cell_string (ht : P.underlying t = some .string) (h : Cell.okWide P w r base t v) : ∃ s, v = .string s := by
  simp only [Cell.okWide, ht] at h
  cases v <;> simp_all [Cell.ok]
theorem cell_slice {e : TypeId} (ht : P.underlying t = some (.slice e)) (h : Cell.okWide P w r base t v) : ∃ a n c, v = .slice a n c := by
  simp only [Cell.okWide, ht] at h
  cases v <;> simp_all [Cell.ok]
end
theorem types33 : Try.prog.cellTypes Try.prog.depth 33 = some [3, 3, 3, 9, 4, 4, 4, 31] := by kernel_rfl
theorem cells33 : Try.prog.cellsOf 33 = 8 := by kernel_rfl
theorem eight {α : Type} (cs : Array α) (h : cs.size = 8) : ∃ a b c d e f g i, cs = #[a, b, c, d, e, f, g, i] := by
  obtain ⟨l⟩ := cs
  match l, h with
  | [a, b, c, d, e, f, g, i], _ => exact ⟨a, b, c, d, e, f, g, i, rfl⟩
/-- The shape of a term. -/
theorem term_open {w : World} {base : Nat} {v : Value} (h : Value.okWide Try.prog w .any base 33 v) :
    ∃ (xk xl xh : Int) (xs : ByteArray) (xa xm xo : Bool) (xf : Option Addr) (xn xc : Nat), v = .agg #[.int .i64 xk, .int .i64 xl, .int .i64 xh, .string xs, .bool xa, .bool xm, .bool xo, .slice xf xn xc] := by
  simp only [Value.okWide, Try.underlying33] at h
  obtain ⟨cs, rfl, hs, ts, ht, -, hi⟩ := h
  rw [types33] at ht
  obtain rfl := Option.some.inj ht
  obtain ⟨c0, c1, c2, c3, c4, c5, c6, c7, rfl⟩ := eight cs (hs.trans cells33)
  obtain ⟨u0, e0, h0⟩ := hi 0 c0 rfl
  obtain ⟨u1, e1, h1⟩ := hi 1 c1 rfl
  obtain ⟨u2, e2, h2⟩ := hi 2 c2 rfl
  obtain ⟨u3, e3, h3⟩ := hi 3 c3 rfl
  obtain ⟨u4, e4, h4⟩ := hi 4 c4 rfl
  obtain ⟨u5, e5, h5⟩ := hi 5 c5 rfl
  obtain ⟨u6, e6, h6⟩ := hi 6 c6 rfl
  obtain ⟨u7, e7, h7⟩ := hi 7 c7 rfl
  obtain rfl := Option.some.inj e0
  obtain rfl := Option.some.inj e1
  obtain rfl := Option.some.inj e2
  obtain rfl := Option.some.inj e3
  obtain rfl := Option.some.inj e4
  obtain rfl := Option.some.inj e5
  obtain rfl := Option.some.inj e6
  obtain rfl := Option.some.inj e7
  obtain ⟨n0, rfl⟩ := cell_int Try.underlying3 h0
  obtain ⟨n1, rfl⟩ := cell_int Try.underlying3 h1
  obtain ⟨n2, rfl⟩ := cell_int Try.underlying3 h2
  obtain ⟨n3, rfl⟩ := cell_string Try.underlying9 h3
  obtain ⟨n4, rfl⟩ := cell_bool Try.underlying4 h4
  obtain ⟨n5, rfl⟩ := cell_bool Try.underlying4 h5
  obtain ⟨n6, rfl⟩ := cell_bool Try.underlying4 h6
  obtain ⟨a7, n7, m7, rfl⟩ := cell_slice Try.underlying31 h7
  exact ⟨n0, n1, n2, n3, n4, n5, n6, a7, n7, m7, rfl⟩
end Go.Proofs.Ytigdibglkejciaa.Sca
