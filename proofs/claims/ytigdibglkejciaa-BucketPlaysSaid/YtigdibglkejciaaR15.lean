/-
  A value that came in, opened: plain data, and how it lies in memory.
-/
import Derived.Test.YtigdibglkejciaaR2
import Derived.Deep.Slices
import Derived.Deep.Fields
import Derived.ChangeSame
import Derived.ProofKit
import Derived.KernelRfl
namespace Go.Proofs.Ytigdibglkejciaa.Rank
open Go.RowKit Go.ChangeShapes Go.WideShapes Go.Deep

theorem cellsOf33 : Try.prog.cellsOf 33 = 8 := by kernel_rfl
theorem cellsOf87 : Try.prog.cellsOf 87 = 2 := by kernel_rfl
theorem cellsOf47 : Try.prog.cellsOf 47 = 1 := by kernel_rfl

section
variable {H : Type} {enc : TypeId × Value → H} {W : World} {held : Bool}
/-- Field j of a struct of one-cell fields. -/
theorem one_field {P : Program} {sp : Nat → Bool} {fuel : Nat} {t : TypeId} {fs : Array Field} {cs : List Value} {x : DataW H × List MemPlace} (ht : P.underlying t = some (.struct fs)) (hone : oneCellFields P fs = true) (hC : P.cellsOf t = fs.size)
    (h : DataW.trod enc P W 0 sp held fuel t cs = some x) (j : Nat) (f : Field) (hf : fs[j]? = some f) : ∃ (m : Nat) (c : Value) (y : DataW H × List MemPlace), fuel = m + 1 ∧ cs[j]? = some c ∧ DataW.trod enc P W 0 sp held m f.type [c] = some y := by
  obtain ⟨ys, m, hm, _, hlen, hyl, hg⟩ := DataW.trod_struct ht h
  obtain ⟨ho, hk⟩ := hone_of hone j f hf
  have hj : j < fs.size := (Array.getElem?_eq_some_iff.1 hf).1
  have h1 := hg j f hf
  have hjc : j < cs.length := by omega
  rw [ho, hk, List.drop_eq_getElem_cons hjc, List.take_succ_cons, List.take_zero, List.getElem?_eq_getElem (by omega)] at h1
  exact ⟨m, cs[j], _, hm, List.getElem?_eq_getElem hjc, h1⟩

theorem elem_cells {P : Program} {sp : Nat → Bool} {t e : TypeId} {fuel : Nat} {c : Value} {x : DataW H × List MemPlace} {k : Nat} (ht : P.underlying t = some (.slice e)) (hk : P.cellsOf e = k) (hk0 : 0 < k) (h : DataW.trod enc P W 0 sp held fuel t [c] = some x) :
    ∃ (a : Option Addr) (len cap m : Nat), c = .slice a len cap ∧ fuel = m + 1 ∧ len ≤ cap ∧ cap ≤ maxLen ∧ (a = none → cap = 0) ∧ (0 < len → ∃ b off, a = some ⟨b, off, none⟩ ∧ b < W.heap.size ∧
      ∀ i, i < len → ∃ (cs : List Value) (y : DataW H × List MemPlace), cs.length = k ∧ (∀ j, j < k → W.cell? ⟨b, off + i * k + j, none⟩ = cs[j]?) ∧ DataW.trod enc P W 0 sp held m e cs = some y) := by
  rcases DataW.trod_slice ht h with ⟨e1, _⟩ | ⟨a, len, cap, elems, rest, m, hf, e1, _, _, hl, hm, hlen, hel, _⟩
  · obtain ⟨m, hm⟩ : ∃ m, fuel = m + 1 := by
      cases fuel with
      | zero => simp [DataW.trod] at h
      | succ m => exact ⟨m, rfl⟩
    exact ⟨none, 0, 0, m, by simpa using e1, hm, Nat.le_refl _, by unfold maxLen; omega, fun _ => rfl, fun h => absurd h (by omega)⟩
  · refine ⟨some a, len, cap, m, by simpa using e1, hf, hl, hm, (fun h => by cases h), fun h0 => ?_⟩
    have each : ∀ i, i < len → ∃ (cs : List Value) (y : DataW H × List MemPlace), cs.length = k ∧ (∀ j, j < k → W.cell? ((a.add (i * k)).add j) = cs[j]?) ∧ DataW.trod enc P W 0 sp held m e cs = some y := by
      intro i hi
      have h1 := hel i hi
      rw [List.getElem?_eq_getElem (by omega), hk] at h1
      obtain ⟨cs, hcs, hy⟩ := Option.bind_eq_some_iff.1 h1
      obtain ⟨_, hcl, hat⟩ := World.cells?_some hcs
      exact ⟨cs, _, hcl, hat, hy⟩
    obtain ⟨cs0, y0, hl0, hc0, _⟩ := each 0 h0
    have h2 := hc0 0 hk0
    rw [List.getElem?_eq_getElem (by omega)] at h2
    have hsp := World.cell?_spot h2
    have hlt := World.block_lt_of_cell? _ _ h2
    obtain ⟨b, off, spot⟩ := a
    have hsp' : spot = none := by simpa [Addr.add] using hsp
    subst hsp'
    refine ⟨b, off, rfl, by simpa [Addr.add] using hlt, fun i hi => ?_⟩
    obtain ⟨cs, y, g1, g2, g3⟩ := each i hi
    exact ⟨cs, y, g1, fun j hj => by have := g2 j hj; rwa [add_plain, add_plain] at this, g3⟩

theorem int_cell {P : Program} {sp : Nat → Bool} {fuel : Nat} {t : TypeId} {c : Value} {x : DataW H × List MemPlace} (ht : P.underlying t = some (.int .i64)) (h : DataW.trod enc P W 0 sp held fuel t [c] = some x) : ∃ n, c = .int .i64 n := by
  obtain ⟨n, e, _⟩ := DataW.trod_int ht h; exact ⟨n, by simpa using e⟩
theorem bool_cell {P : Program} {sp : Nat → Bool} {fuel : Nat} {t : TypeId} {c : Value} {x : DataW H × List MemPlace} (ht : P.underlying t = some .bool) (h : DataW.trod enc P W 0 sp held fuel t [c] = some x) : ∃ n, c = .bool n := by
  obtain ⟨n, e, _⟩ := DataW.trod_bool ht h; exact ⟨n, by simpa using e⟩
theorem string_cell {P : Program} {sp : Nat → Bool} {fuel : Nat} {t : TypeId} {c : Value} {x : DataW H × List MemPlace} (ht : P.underlying t = some .string) (h : DataW.trod enc P W 0 sp held fuel t [c] = some x) : ∃ n, c = .string n := by
  obtain ⟨n, e, _⟩ := DataW.trod_string ht h; exact ⟨n, by simpa using e⟩

theorem open_terms {sp : Nat → Bool} : ∀ (n fuel : Nat) (c : Value) (x : DataW H × List MemPlace), fuel ≤ 5 * n + 1 → DataW.trod enc Try.prog W 0 sp held fuel 45 [c] = some x →
    ∃ (a : Option Addr) (len cap : Nat) (v : List (Trm n)), c = .slice a len cap ∧ ValIn W W.heap.size n a len cap v := by
  intro n
  induction n with
  | zero =>
    intro fuel c x hfu h
    obtain ⟨a, len, cap, m, rfl, hm, hl, hcap, hn, hel⟩ := elem_cells Try.underlying45 cellsOf33 (by omega) h
    refine ⟨a, len, cap, [], rfl, ?_, hcap, hn⟩
    rcases Nat.eq_zero_or_pos len with h0 | h0
    · exact h0
    · obtain ⟨b, off, _, _, he⟩ := hel h0
      obtain ⟨cs, y, _, _, hy⟩ := he 0 h0
      obtain rfl : m = 0 := by omega
      simp [DataW.trod] at hy
  | succ n ih =>
    intro fuel c x hfu h
    obtain ⟨a, len, cap, m, rfl, hm, hl, hcap, hn, hel⟩ := elem_cells Try.underlying45 cellsOf33 (by omega) h
    rcases Nat.eq_zero_or_pos len with h0 | h0
    · subst h0
      exact ⟨a, 0, cap, [], rfl, rfl, Nat.zero_le _, hcap, hn, fun h => absurd rfl h⟩
    obtain ⟨b, off, rfl, hb, he⟩ := hel h0
    -- the fields of one term
    have fieldsOf : ∀ (fuel : Nat) (c : Value) (x : DataW H × List MemPlace), fuel ≤ 5 * n + 4 → DataW.trod enc Try.prog W 0 sp held fuel 31 [c] = some x →
        ∃ (a : Option Addr) (len cap : Nat) (v : List (ByteArray × List (Trm n))), c = .slice a len cap ∧ FsIn W W.heap.size n a len cap v := by
      intro fuel c x hfu h
      obtain ⟨a, len, cap, m, rfl, hm, hl, hcap, hn, hel⟩ := elem_cells Try.underlying31 cellsOf87 (by omega) h
      rcases Nat.eq_zero_or_pos len with h0 | h0
      · subst h0
        exact ⟨a, 0, cap, [], rfl, rfl, Nat.zero_le _, hcap, hn, fun h => absurd rfl h⟩
      obtain ⟨b, off, rfl, hb, he⟩ := hel h0
      have each : ∀ i, i < len → ∃ f : ByteArray × List (Trm n), FAt (ValIn W W.heap.size n) W b off i f := by
        intro i hi
        obtain ⟨cs, y, hcl, hat, hy⟩ := he i hi
        obtain ⟨m1, c0, y0, e0, g0, t0⟩ := one_field Try.underlying87 (by kernel_rfl) (by kernel_rfl) hy 0 _ rfl
        obtain ⟨m2, c1, y1, e1, g1, t1⟩ := one_field Try.underlying87 (by kernel_rfl) (by kernel_rfl) hy 1 _ rfl
        obtain ⟨s, rfl⟩ := string_cell Try.underlying9 t0
        obtain ⟨m3, c2, y2, e2, g2, t2⟩ := one_field Try.underlying47 (by kernel_rfl) (by kernel_rfl) t1 0 _ rfl
        obtain rfl : c1 = c2 := by simpa using g2
        obtain ⟨ta, tl, tc, v, rfl, hv⟩ := ih m3 c1 y2 (by omega) t2
        exact ⟨(s, v), (hat 0 (by omega)).trans g0, ta, tl, tc, (hat 1 (by omega)).trans g1, hv⟩
      obtain ⟨f, hf⟩ : ∃ f : Nat → ByteArray × List (Trm n), ∀ i, i < len → FAt (ValIn W W.heap.size n) W b off i (f i) :=
        ⟨fun i => if hi : i < len then (each i hi).choose else (ByteArray.empty, []), fun i hi => by simp only [hi, dite_true]; exact (each i hi).choose_spec⟩
      refine ⟨_, len, cap, (List.range len).map f, rfl, by simp, hl, hcap, hn, fun _ => ⟨b, off, rfl, hb, fun i hi => ?_⟩⟩
      have hi' : i < len := by simpa using hi
      have := hf i hi'
      simpa using this
    have each : ∀ i, i < len → ∃ t : Trm (n + 1), ∃ fa fl fc, PlAt W b off i t.1 fa fl fc ∧ FsIn W W.heap.size n fa fl fc t.2 := by
      intro i hi
      obtain ⟨cs, y, hcl, hat, hy⟩ := he i hi
      obtain ⟨m0, c0, y0, e0, g0, t0⟩ := one_field Try.underlying33 (by kernel_rfl) (by kernel_rfl) hy 0 _ rfl
      obtain ⟨m1, c1, y1, e1, g1, t1⟩ := one_field Try.underlying33 (by kernel_rfl) (by kernel_rfl) hy 1 _ rfl
      obtain ⟨m2, c2, y2, e2, g2, t2⟩ := one_field Try.underlying33 (by kernel_rfl) (by kernel_rfl) hy 2 _ rfl
      obtain ⟨m3, c3, y3, e3, g3, t3⟩ := one_field Try.underlying33 (by kernel_rfl) (by kernel_rfl) hy 3 _ rfl
      obtain ⟨m4, c4, y4, e4, g4, t4⟩ := one_field Try.underlying33 (by kernel_rfl) (by kernel_rfl) hy 4 _ rfl
      obtain ⟨m5, c5, y5, e5, g5, t5⟩ := one_field Try.underlying33 (by kernel_rfl) (by kernel_rfl) hy 5 _ rfl
      obtain ⟨m6, c6, y6, e6, g6, t6⟩ := one_field Try.underlying33 (by kernel_rfl) (by kernel_rfl) hy 6 _ rfl
      obtain ⟨m7, c7, y7, e7, g7, t7⟩ := one_field Try.underlying33 (by kernel_rfl) (by kernel_rfl) hy 7 _ rfl
      obtain ⟨v0, rfl⟩ := int_cell Try.underlying3 t0
      obtain ⟨v1, rfl⟩ := int_cell Try.underlying3 t1
      obtain ⟨v2, rfl⟩ := int_cell Try.underlying3 t2
      obtain ⟨v3, rfl⟩ := string_cell Try.underlying9 t3
      obtain ⟨v4, rfl⟩ := bool_cell Try.underlying4 t4
      obtain ⟨v5, rfl⟩ := bool_cell Try.underlying4 t5
      obtain ⟨v6, rfl⟩ := bool_cell Try.underlying4 t6
      obtain ⟨fa, fl, fc, fs, rfl, hfs⟩ := fieldsOf m7 c7 y7 (by omega) t7
      exact ⟨(⟨v0, v1, v2, v3, v4, v5, v6⟩, fs), fa, fl, fc, ⟨(hat 0 (by omega)).trans g0, (hat 1 (by omega)).trans g1, (hat 2 (by omega)).trans g2, (hat 3 (by omega)).trans g3, (hat 4 (by omega)).trans g4, (hat 5 (by omega)).trans g5, (hat 6 (by omega)).trans g6, (hat 7 (by omega)).trans g7⟩, hfs⟩
    obtain ⟨f, hf⟩ : ∃ f : Nat → Trm (n + 1), ∀ i, i < len → ∃ fa fl fc, PlAt W b off i (f i).1 fa fl fc ∧ FsIn W W.heap.size n fa fl fc (f i).2 :=
      haveI : Inhabited (Trm (n + 1)) := ⟨(⟨0, 0, 0, ByteArray.empty, false, false, false⟩, [])⟩
      choose_lt each
    refine ⟨_, len, cap, (List.range len).map f, rfl, by simp, hl, hcap, hn, fun _ => ⟨b, off, rfl, hb, fun i hi => ?_⟩⟩
    have hi' : i < len := by simpa using hi
    have := hf i hi'
    rw [List.getElem_map, List.getElem_range]
    exact this
/-- A value that came in. -/
theorem open_value {sp : Nat → Bool} {v : Value} {d : DataW H} {ps : List MemPlace} {base : Nat} (hval : Value.okWide Try.prog W .any base 47 v) (h : DataW.Trod enc Try.prog W 0 sp held 47 v d ps) :
    ∃ m : Nat, ∀ n, m ≤ n → ∃ (a : Option Addr) (len cap : Nat) (x : List (Trm n)), v = .agg #[.slice a len cap] ∧ ValIn W W.heap.size n a len cap x := by
  obtain ⟨cs, rfl, hsz⟩ := okWide_struct Try.underlying47 hval
  obtain ⟨l⟩ := cs
  match l, hsz.trans cellsOf47 with
  | [c], _ =>
    obtain ⟨fuel, hf⟩ := h
    obtain ⟨m, c', y, e, g, t⟩ := one_field Try.underlying47 (by kernel_rfl) (by kernel_rfl) hf 0 _ rfl
    obtain rfl : c = c' := by simpa [Value.cells] using g
    refine ⟨m, fun n hn => ?_⟩
    obtain ⟨a, len, cap, x, rfl, hx⟩ := open_terms n m c y (by omega) t
    exact ⟨a, len, cap, x, rfl, hx⟩
end
end Go.Proofs.Ytigdibglkejciaa.Rank
