/-
  An expression that came in, opened: plain data, and how it lies in memory.
-/
import Derived.Test.YtigdibglkejciaaDoorE5
namespace Go.Proofs.YtigdibglkejciaaDoor.Ex
open Go.RowKit Go Go.ChangeShapes Go.WideShapes Go.Deep
set_option linter.unusedSimpArgs false

theorem cellsOf26 : Tryd.prog.cellsOf 26 = 7 := by kernel_rfl
theorem cellsOf46 : Tryd.prog.cellsOf 46 = 8 := by kernel_rfl
theorem cellsOf9 : Tryd.prog.cellsOf 9 = 1 := by kernel_rfl
section
variable {H : Type} {enc : TypeId × Value → H} {W : World} {held : Bool}
/-- Field j of a struct of one-cell fields. -/
theorem one_field {P : Program} {sp : Nat → Bool} {fuel : Nat} {t : TypeId} {fs : Array Field} {cs : List Value} {x : DataW H × List MemPlace} (ht : P.underlying t = some (.struct fs)) (hone : oneCellFields P fs = true) (hC : P.cellsOf t = fs.size)
    (h : DataW.trod enc P W 0 sp held fuel t cs = some x) (j : Nat) (f : Field) (hf : fs[j]? = some f) : ∃ (m : Nat) (c : Value) (y : DataW H × List MemPlace), fuel = m + 1 ∧ cs[j]? = some c ∧ DataW.trod enc P W 0 sp held m f.type [c] = some y := by
  obtain ⟨ys, m, hm, _, hlen, hyl, hg⟩ := DataW.trod_struct ht h
  obtain ⟨ho, hk⟩ := hone_of hone j f hf
  have hj : j < fs.size := (Array.getElem?_eq_some_iff.1 hf).1
  have h1 := hg j f hf
  have hjc : j < cs.length := by omega
  rw [ho, hk, List.drop_eq_getElem_cons hjc, List.take_succ_cons, List.take_zero, List.getElem?_eq_getElem (by omega)] at h1
  exact ⟨m, cs[j], _, hm, List.getElem?_eq_getElem hjc, h1⟩

theorem elem_cells {P : Program} {sp : Nat → Bool} {t e : TypeId} {fuel : Nat} {c : Value} {x : DataW H × List MemPlace} {k : Nat} (ht : P.underlying t = some (.slice e)) (hk : P.cellsOf e = k) (hk0 : 0 < k) (h : DataW.trod enc P W 0 sp held fuel t [c] = some x) :
    ∃ (a : Option Addr) (len cap m : Nat), c = .slice a len cap ∧ fuel = m + 1 ∧ len ≤ cap ∧ cap ≤ maxLen ∧ (a = none → cap = 0) ∧ (0 < len → ∃ b off, a = some ⟨b, off, none⟩ ∧ b < W.heap.size ∧
      ∀ i, i < len → ∃ (cs : List Value) (y : DataW H × List MemPlace), cs.length = k ∧ (∀ j, j < k → W.cell? ⟨b, off + i * k + j, none⟩ = cs[j]?) ∧ DataW.trod enc P W 0 sp held m e cs = some y) := by
  rcases DataW.trod_slice ht h with ⟨e1, _⟩ | ⟨a, len, cap, elems, rest, m, hf, e1, _, _, hl, hm, hlen, hel, _⟩
  · obtain ⟨m, hm⟩ : ∃ m, fuel = m + 1 := by
      cases fuel with
      | zero => simp [DataW.trod] at h
      | succ m => exact ⟨m, rfl⟩
    exact ⟨none, 0, 0, m, by simpa using e1, hm, Nat.le_refl _, by unfold maxLen; omega, fun _ => rfl, fun h => absurd h (by omega)⟩
  · refine ⟨some a, len, cap, m, by simpa using e1, hf, hl, hm, (fun h => by cases h), fun h0 => ?_⟩
    have each : ∀ i, i < len → ∃ (cs : List Value) (y : DataW H × List MemPlace), cs.length = k ∧ (∀ j, j < k → W.cell? ((a.add (i * k)).add j) = cs[j]?) ∧ DataW.trod enc P W 0 sp held m e cs = some y := by
      intro i hi
      have h1 := hel i hi
      rw [List.getElem?_eq_getElem (by omega), hk] at h1
      obtain ⟨cs, hcs, hy⟩ := Option.bind_eq_some_iff.1 h1
      obtain ⟨_, hcl, hat⟩ := World.cells?_some hcs
      exact ⟨cs, _, hcl, hat, hy⟩
    obtain ⟨cs0, y0, hl0, hc0, _⟩ := each 0 h0
    have h2 := hc0 0 hk0
    rw [List.getElem?_eq_getElem (by omega)] at h2
    have hsp := World.cell?_spot h2
    have hlt := World.block_lt_of_cell? _ _ h2
    obtain ⟨b, off, spot⟩ := a
    have hsp' : spot = none := by simpa [Addr.add] using hsp
    subst hsp'
    refine ⟨b, off, rfl, by simpa [Addr.add] using hlt, fun i hi => ?_⟩
    obtain ⟨cs, y, g1, g2, g3⟩ := each i hi
    exact ⟨cs, y, g1, fun j hj => by have := g2 j hj; rwa [add_plain, add_plain] at this, g3⟩

theorem int_cell {P : Program} {sp : Nat → Bool} {fuel : Nat} {t : TypeId} {c : Value} {x : DataW H × List MemPlace} (ht : P.underlying t = some (.int .i64)) (h : DataW.trod enc P W 0 sp held fuel t [c] = some x) : ∃ n, c = .int .i64 n := by
  obtain ⟨n, e, _⟩ := DataW.trod_int ht h; exact ⟨n, by simpa using e⟩
theorem bool_cell {P : Program} {sp : Nat → Bool} {fuel : Nat} {t : TypeId} {c : Value} {x : DataW H × List MemPlace} (ht : P.underlying t = some .bool) (h : DataW.trod enc P W 0 sp held fuel t [c] = some x) : ∃ n, c = .bool n := by
  obtain ⟨n, e, _⟩ := DataW.trod_bool ht h; exact ⟨n, by simpa using e⟩
theorem string_cell {P : Program} {sp : Nat → Bool} {fuel : Nat} {t : TypeId} {c : Value} {x : DataW H × List MemPlace} (ht : P.underlying t = some .string) (h : DataW.trod enc P W 0 sp held fuel t [c] = some x) : ∃ n, c = .string n := by
  obtain ⟨n, e, _⟩ := DataW.trod_string ht h; exact ⟨n, by simpa using e⟩


theorem choose_lt' {α : Type} [Inhabited α] {len : Nat} {Q : Nat → α → Prop} (h : ∀ i, i < len → ∃ t, Q i t) : ∃ f : Nat → α, ∀ i, i < len → Q i (f i) :=
  ⟨fun i => if hi : i < len then (h i hi).choose else default, fun i hi => by simp only [hi, dite_true]; exact (h i hi).choose_spec⟩
theorem open_strs {sp : Nat → Bool} (fuel : Nat) (c : Value) (x : DataW H × List MemPlace) (h : DataW.trod enc Tryd.prog W 0 sp held fuel 22 [c] = some x) :
    ∃ (a : Option Addr) (len cap : Nat) (l : List ByteArray), c = .slice a len cap ∧ StrsIn W W.heap.size a len l := by
  obtain ⟨a, len, cap, m, rfl, hm, hl, hcap, hn, hel⟩ := elem_cells Tryd.underlying22 cellsOf9 (by omega) h
  rcases Nat.eq_zero_or_pos len with h0 | h0
  · subst h0
    exact ⟨a, 0, cap, [], rfl, rfl, by simp, fun h => absurd h (by simp)⟩
  obtain ⟨b, off, rfl, hb, he⟩ := hel h0
  have each : ∀ i, i < len → ∃ s : ByteArray, W.cell? ⟨b, off + i, none⟩ = some (.string s) := by
    intro i hi
    obtain ⟨cs, y, hcl, hat, hy⟩ := he i hi
    match cs, hcl with
    | [c0], _ =>
      obtain ⟨s, rfl⟩ := string_cell Tryd.underlying9 hy
      exact ⟨s, by simpa using hat 0 (by omega)⟩
  haveI : Inhabited ByteArray := ⟨ByteArray.empty⟩
  obtain ⟨f, hf⟩ := choose_lt' each
  refine ⟨_, len, cap, (List.range len).map f, rfl, by simp, by simp; omega, fun _ => ⟨b, off, rfl, hb, fun i hi => ?_⟩⟩
  have hi' : i < len := by simpa using hi
  rw [List.getElem_map, List.getElem_range]
  exact hf i hi'
/-- The cells of an expression as a list. -/
def V7.cells (v : V7) : List Value := [.int .i64 v.op, .int .i64 v.num, .string v.tx, .slice v.pa v.pl v.pc, .slice v.qa v.ql v.qc, .bool v.opn, .slice v.ka v.kl v.kc]
theorem EAt.of_cells {g o : Nat} {v : V7} (h : ∀ j, j < 7 → W.cell? ⟨g, o + j, none⟩ = v.cells[j]?) : EAt W g o v :=
  ⟨h 0 (by omega), h 1 (by omega), h 2 (by omega), h 3 (by omega), h 4 (by omega), h 5 (by omega), h 6 (by omega)⟩
theorem open_ex {sp : Nat → Bool} : ∀ (n fuel : Nat) (cs : List Value) (x : DataW H × List MemPlace), fuel ≤ 2 * n → DataW.trod enc Tryd.prog W 0 sp held fuel 26 cs = some x →
    ∃ (v : V7) (e : Ex n), cs = v.cells ∧ ExIn W W.heap.size n v e := by
  intro n
  induction n with
  | zero =>
    intro fuel cs x hfu h
    obtain rfl : fuel = 0 := by omega
    simp [DataW.trod] at h
  | succ n ih =>
    intro fuel cs x hfu h
    have hlen : cs.length = 7 := by
      obtain ⟨_, _, _, _, hl, _⟩ := DataW.trod_struct Tryd.underlying26 h
      rw [hl, cellsOf26]
    obtain ⟨m0, c0, y0, e0, g0, t0⟩ := one_field Tryd.underlying26 (by kernel_rfl) (by kernel_rfl) h 0 _ rfl
    obtain ⟨m1, c1, y1, e1, g1, t1⟩ := one_field Tryd.underlying26 (by kernel_rfl) (by kernel_rfl) h 1 _ rfl
    obtain ⟨m2, c2, y2, e2, g2, t2⟩ := one_field Tryd.underlying26 (by kernel_rfl) (by kernel_rfl) h 2 _ rfl
    obtain ⟨m3, c3, y3, e3, g3, t3⟩ := one_field Tryd.underlying26 (by kernel_rfl) (by kernel_rfl) h 3 _ rfl
    obtain ⟨m4, c4, y4, e4, g4, t4⟩ := one_field Tryd.underlying26 (by kernel_rfl) (by kernel_rfl) h 4 _ rfl
    obtain ⟨m5, c5, y5, e5, g5, t5⟩ := one_field Tryd.underlying26 (by kernel_rfl) (by kernel_rfl) h 5 _ rfl
    obtain ⟨m6, c6, y6, e6, g6, t6⟩ := one_field Tryd.underlying26 (by kernel_rfl) (by kernel_rfl) h 6 _ rfl
    obtain ⟨v0, rfl⟩ := int_cell Tryd.underlying3 t0
    obtain ⟨v1, rfl⟩ := int_cell Tryd.underlying3 t1
    obtain ⟨v2, rfl⟩ := string_cell Tryd.underlying9 t2
    obtain ⟨pa, pl, pc, ps, rfl, hps⟩ := open_strs m3 c3 y3 t3
    obtain ⟨v5, rfl⟩ := bool_cell Tryd.underlying4 t5
    obtain ⟨qa, ql, qc, mq, rfl, hmq, hlq, hcq, hnq, heq⟩ := elem_cells Tryd.underlying23 cellsOf46 (by omega) t4
    obtain ⟨ka, kl, kc, mk, rfl, hmk, hlk, hck, hnk, hek⟩ := elem_cells Tryd.underlying24 cellsOf26 (by omega) t6
    have hk : ∃ l : List (Ex n), KidsIn (ExIn W W.heap.size n) W W.heap.size ka kl l := by
      rcases Nat.eq_zero_or_pos kl with h0 | h0
      · exact ⟨[], h0, by simp, fun h => absurd h (by simp)⟩
      obtain ⟨b, off, rfl, hb, he⟩ := hek h0
      have each : ∀ i, i < kl → ∃ p : V7 × Ex n, EAt W b (off + i * 7) p.1 ∧ ExIn W W.heap.size n p.1 p.2 := by
        intro i hi
        obtain ⟨cs, y, hcl, hat, hy⟩ := he i hi
        obtain ⟨v, e, rfl, hx⟩ := ih mk cs y (by omega) hy
        exact ⟨(v, e), EAt.of_cells hat, hx⟩
      obtain ⟨p0, _⟩ := each 0 h0
      haveI : Inhabited (V7 × Ex n) := ⟨p0⟩
      obtain ⟨f, hf⟩ := choose_lt' each
      refine ⟨(List.range kl).map (fun i => (f i).2), by simp, by simp; omega, fun _ => ⟨b, off, rfl, hb, fun i hi => ?_⟩⟩
      have hi' : i < kl := by simpa using hi
      rw [List.getElem_map, List.getElem_range]
      exact ⟨(f i).1, (hf i hi').1, (hf i hi').2⟩
    have hq : ∃ l : List (ByteArray × Ex n), PairsIn (ExIn W W.heap.size n) W W.heap.size qa ql l := by
      rcases Nat.eq_zero_or_pos ql with h0 | h0
      · exact ⟨[], h0, by simp, fun h => absurd h (by simp)⟩
      obtain ⟨b, off, rfl, hb, he⟩ := heq h0
      have each : ∀ i, i < ql → ∃ p : V7 × (ByteArray × Ex n), W.cell? ⟨b, off + i * 8, none⟩ = some (.string p.2.1) ∧ EAt W b (off + i * 8 + 1) p.1 ∧ ExIn W W.heap.size n p.1 p.2.2 := by
        intro i hi
        obtain ⟨cs, y, hcl, hat, hy⟩ := he i hi
        obtain ⟨ys, m', hm', _, hcl2, hyl, hg⟩ := DataW.trod_struct Tryd.underlying46 hy
        have f0 := hg 0 _ rfl
        have f1 := hg 1 _ rfl
        have o0 : ((cs.drop 0).take (Tryd.prog.cellsOf 9)) = cs.take 1 := by rw [cellsOf9]; rfl
        have o1 : ((cs.drop 1).take (Tryd.prog.cellsOf 26)) = cs.drop 1 := by rw [cellsOf26]; exact List.take_of_length_le (by simp; omega)
        have f0' : DataW.trod enc Tryd.prog W 0 sp held m' 9 (cs.take 1) = ys[0]? := by rw [← o0]; exact f0
        have f1' : DataW.trod enc Tryd.prog W 0 sp held m' 26 (cs.drop 1) = ys[1]? := by rw [← o1]; exact f1
        have hy2 : ys.length = 2 := hyl
        rw [List.getElem?_eq_getElem (by omega)] at f0' f1'
        obtain ⟨v, e, hv, hx⟩ := ih m' _ _ (by omega) f1'
        match cs, hcl with
        | c0 :: r, hcl =>
          obtain ⟨s, rfl⟩ := string_cell Tryd.underlying9 f0'
          simp only [List.drop_succ_cons, List.drop_zero] at hv
          subst hv
          refine ⟨(v, (s, e)), by simpa using hat 0 (by omega), EAt.of_cells (fun j hj => ?_), hx⟩
          have := hat (j + 1) (by omega)
          rw [show off + i * 8 + 1 + j = off + i * 8 + (j + 1) by omega, this]
          rfl
      obtain ⟨p0, _⟩ := each 0 h0
      haveI : Inhabited (V7 × (ByteArray × Ex n)) := ⟨p0⟩
      obtain ⟨f, hf⟩ := choose_lt' each
      refine ⟨(List.range ql).map (fun i => (f i).2), by simp, by simp; omega, fun _ => ⟨b, off, rfl, hb, fun i hi => ?_⟩⟩
      have hi' : i < ql := by simpa using hi
      rw [List.getElem_map, List.getElem_range]
      exact ⟨(f i).1, (hf i hi').1, (hf i hi').2.1, (hf i hi').2.2⟩
    obtain ⟨lk, hk⟩ := hk
    obtain ⟨lq, hq⟩ := hq
    refine ⟨⟨v0, v1, v2, pa, pl, pc, qa, ql, qc, v5, ka, kl, kc⟩, (⟨v0, v1, v2, v5⟩, ps, lq, lk), ?_, rfl, rfl, rfl, rfl, hps, hq, hk⟩
    match cs, hlen with
    | [d0, d1, d2, d3, d4, d5, d6], _ =>
      simp only [List.getElem?_cons_zero, List.getElem?_cons_succ, Option.some.injEq] at g0 g1 g2 g3 g4 g5 g6
      subst g0 g1 g2 g3 g4 g5 g6
      rfl
/-- An expression that came in. -/
theorem open_expr {sp : Nat → Bool} {v : Value} {d : DataW H} {ps : List MemPlace} {base : Nat} (hval : Value.okWide Tryd.prog W .any base 26 v) (h : DataW.Trod enc Tryd.prog W 0 sp held 26 v d ps) :
    ∃ m : Nat, ∀ n, m ≤ n → ∃ (u : V7) (x : Ex n), v = u.val ∧ ExIn W W.heap.size n u x := by
  obtain ⟨cs, rfl, hsz⟩ := okWide_struct Tryd.underlying26 hval
  obtain ⟨fuel, hf⟩ := h
  refine ⟨fuel, fun n hn => ?_⟩
  obtain ⟨u, x, hu, hx⟩ := open_ex n fuel _ _ (by omega) hf
  refine ⟨u, x, ?_, hx⟩
  obtain ⟨l⟩ := cs
  have : l = u.cells := by simpa [Value.cells] using hu
  subst this
  rfl
end
end Go.Proofs.YtigdibglkejciaaDoor.Ex
