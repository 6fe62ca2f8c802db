/-
  The acts that came in; the slot's bounds.
-/
import Derived.Test.YtigdibglkejciaaB14
namespace Go.Proofs.Ytigdibglkejciaa.Buck
open Go.RowKit Go Go.ChangeShapes Go.WideShapes

theorem fnv_nonneg : ∀ (l : List UInt8) (x : Int), 0 ≤ x → 0 ≤ fnv x l
  | [], _, h => h
  | b :: l, x, _ => by
    show 0 ≤ fnv (fnvStep x b) l
    refine fnv_nonneg l _ ?_
    unfold fnvStep
    rw [IntKind.wrap_u64]
    omega
theorem slot_bounds (s : ByteArray) (M : Nat) (h1 : 1 ≤ M) (h2 : M ≤ 1024) : 0 ≤ slot s (M : Int) ∧ slot s (M : Int) < (M : Int) := by
  rw [slot_in s M (by omega) (by omega)]
  have h0 := fnv_nonneg s.data.toList 14695981039346656037 (by omega)
  have h3 := Int.tmod_nonneg (M : Int) h0
  have h4 := Int.tmod_lt_of_pos (fnv 14695981039346656037 s.data.toList) (show (0 : Int) < (M : Int) by omega)
  generalize (fnv 14695981039346656037 s.data.toList).tmod (M : Int) = r at *
  unfold wrap64
  omega
/-- Acts in memory. -/
def ActsIn (W : World) (n : Nat) (a : Option Addr) : Prop := ∀ i, i < n → ∃ g off kd s id, a = some ⟨g, off, none⟩ ∧ g < W.heap.size ∧ W.cell? ⟨g, off + i * 3, none⟩ = some (.int .u8 kd) ∧ W.cell? ⟨g, off + i * 3 + 1, none⟩ = some (.string s) ∧ W.cell? ⟨g, off + i * 3 + 2, none⟩ = some (.int .i64 id)
theorem cellsOf61 : Try.prog.cellsOf 61 = 3 := by kernel_rfl
theorem u8_cell {H : Type} {enc : TypeId × Value → H} {W : World} {held : Bool} {P : Program} {sp : Nat → Bool} {fuel : Nat} {t : TypeId} {c : Value} {x : DataW H × List MemPlace} (ht : P.underlying t = some (.int .u8)) (h : DataW.trod enc P W 0 sp held fuel t [c] = some x) : ∃ n, c = .int .u8 n := by
  obtain ⟨n, e, _⟩ := DataW.trod_int ht h; exact ⟨n, by simpa using e⟩
theorem open_acts {H : Type} {enc : TypeId × Value → H} {W : World} {held : Bool} {sp : Nat → Bool} {v : Value} {d : DataW H} {ps : List MemPlace} {base : Nat} (hval : Value.okWide Try.prog W .any base 58 v) (h : DataW.Trod enc Try.prog W 0 sp held 58 v d ps) :
    ∃ (a : Option Addr) (len cap : Nat), v = .slice a len cap ∧ ActsIn W len a := by
  obtain ⟨fuel, hf⟩ := h
  obtain ⟨a0, l0, c0, rfl⟩ := okWide_slice Try.underlying58 hval
  obtain ⟨a, len, cap, m, e, hm, hl, hcap, hn, hel⟩ := Rank.elem_cells Try.underlying58 cellsOf61 (by omega) hf
  refine ⟨a, len, cap, e, fun i hi => ?_⟩
  obtain ⟨b, off, rfl, hb, he⟩ := hel (by omega)
  obtain ⟨cs, y, hcl, hat, hy⟩ := he i hi
  obtain ⟨m0, c0, y0, e0, g0, t0⟩ := Rank.one_field Try.underlying61 (by kernel_rfl) (by kernel_rfl) hy 0 _ rfl
  obtain ⟨m1, c1, y1, e1, g1, t1⟩ := Rank.one_field Try.underlying61 (by kernel_rfl) (by kernel_rfl) hy 1 _ rfl
  obtain ⟨m2, c2, y2, e2, g2, t2⟩ := Rank.one_field Try.underlying61 (by kernel_rfl) (by kernel_rfl) hy 2 _ rfl
  obtain ⟨kd, rfl⟩ := u8_cell Try.underlying5 t0
  obtain ⟨s, rfl⟩ := Rank.string_cell Try.underlying9 t1
  obtain ⟨id, rfl⟩ := Rank.int_cell Try.underlying3 t2
  exact ⟨b, off, kd, s, id, rfl, hb, (hat 0 (by omega)).trans g0, (hat 1 (by omega)).trans g1, (hat 2 (by omega)).trans g2⟩
end Go.Proofs.Ytigdibglkejciaa.Buck
