/-
  Copy, walked.
-/
import Derived.Test.YtigdibglkejciaaDoorE43
namespace Go.Proofs.YtigdibglkejciaaDoor.Ex
open Go.RowKit Go
set_option linter.unusedSimpArgs false

def CopyPost (n : Nat) (x : Ex n) (w : World) (e : Ending) (w' : World) : Prop := ∃ v : V7, e = .returned (.agg #[.int .i64 v.op, .int .i64 v.num, .string v.tx, .slice v.pa v.pl v.pc, .slice v.qa v.ql v.qc, .bool v.opn, .slice v.ka v.kl v.kc]) ∧ Below w.heap.size w w' ∧ ExOwn w' w.heap.size n v x
def CopyOk (n : Nat) : Prop := ∀ (w : World) (B : Nat) (v : V7) (x : Ex n) (d : Nat), B ≤ w.heap.size → SmallE n d x → ExIn w B n v x → Calls Tryd.prog 15 #[.agg #[.int .i64 v.op, .int .i64 v.num, .string v.tx, .slice v.pa v.pl v.pc, .slice v.qa v.ql v.qc, .bool v.opn, .slice v.ka v.kl v.kc]] w (CopyPost n x w)
/-- The cells of pairs. -/
def pcells (qs : List (ByteArray × V7)) : List Value := qs.flatMap (fun q => .string q.1 :: q.2.cells)
theorem pcells_len : ∀ qs : List (ByteArray × V7), (pcells qs).length = qs.length * 8
  | [] => rfl
  | q :: qs => by
    have := pcells_len qs
    simp only [pcells, List.flatMap_cons, List.length_append, List.length_cons] at this ⊢
    have e : q.2.cells.length = 7 := rfl
    omega
theorem pcells_at : ∀ (qs : List (ByteArray × V7)) (i : Nat) (h : i < qs.length) (j : Nat), j < 8 → (pcells qs)[i * 8 + j]? = (Value.string qs[i].1 :: qs[i].2.cells)[j]?
  | q :: qs, 0, _, j, hj => by
    show ((Value.string q.1 :: q.2.cells) ++ pcells qs)[0 * 8 + j]? = _
    rw [List.getElem?_append_left (by show 0 * 8 + j < 8; omega)]
    simp
  | q :: qs, i + 1, h, j, hj => by
    have := pcells_at qs i (by simpa using h) j hj
    show ((Value.string q.1 :: q.2.cells) ++ pcells qs)[(i + 1) * 8 + j]? = _
    rw [List.getElem?_append_right (by show 8 ≤ _; omega)]
    have e : (i + 1) * 8 + j - (Value.string q.1 :: q.2.cells).length = i * 8 + j := by show (i + 1) * 8 + j - 8 = _; omega
    rw [e, this]
    rfl
theorem pcells_one : ∀ (qs : List (ByteArray × V7)), ∀ u ∈ pcells qs, u.oneCell' = true
  | [], u, h => by simp [pcells] at h
  | q :: qs, u, h => by
    simp only [pcells, List.flatMap_cons, List.mem_append] at h
    rcases h with h | h
    · simp [V7.cells] at h; rcases h with rfl | rfl | rfl | rfl | rfl | rfl | rfl | rfl <;> rfl
    · exact pcells_one qs u h
theorem at_div {m : Nat} (_ : 0 < m) (j : Nat) : j = j / m * m + j % m := by rw [Nat.mul_comm]; exact (Nat.div_add_mod j m).symm
/-- The cells of kids, of pairs, of texts, in lists. -/
theorem kids_list {n : Nat} {W : World} {B : Nat} {a : Option Addr} {len : Nat} {l : List (Ex n)} (h : KidsIn (ExIn W B n) W B a len l) : ∃ vs : List V7, vs.length = l.length ∧ (0 < len → ∃ g off, a = some ⟨g, off, none⟩ ∧ ∀ j u, (vcells vs)[j]? = some u → W.cell? ⟨g, off + j, none⟩ = some u) ∧ ∀ i (h1 : i < vs.length) (h2 : i < l.length), ExIn W B n vs[i] l[i] := by
  rcases Nat.eq_zero_or_pos l.length with h0 | h0
  · exact ⟨[], h0.symm, fun hp => by have := h.1; omega, fun i h1 => by simp at h1⟩
  obtain ⟨g, off, rfl, hg, hi⟩ := h.2.2 h0
  obtain ⟨p0, _⟩ := hi 0 h0
  haveI : Inhabited V7 := ⟨p0⟩
  obtain ⟨f, hf⟩ := choose_lt' (len := l.length) (Q := fun i v => ∀ h : i < l.length, EAt W g (off + i * 7) v ∧ ExIn W B n v l[i]) (fun i hlt => by obtain ⟨v, h1, h2⟩ := hi i hlt; exact ⟨v, fun _ => ⟨h1, h2⟩⟩)
  refine ⟨(List.range l.length).map f, by simp, fun _ => ⟨g, off, rfl, fun j u hj => ?_⟩, fun i h1 h2 => ?_⟩
  · have hjl : j < l.length * 7 := by
      have := (List.getElem?_eq_some_iff.1 hj).1
      rw [vcells_len] at this
      simpa using this
    have hd : j / 7 < l.length := Nat.div_lt_of_lt_mul (by omega)
    have e := at_div (m := 7) (by omega) j
    rw [e, vcells_at _ (j / 7) (by simpa using hd) (j % 7) (Nat.mod_lt _ (by omega))] at hj
    rw [List.getElem_map, List.getElem_range] at hj
    obtain ⟨c0, c1, c2, c3, c4, c5, c6⟩ := (hf _ hd hd).1
    have hm : j % 7 < 7 := Nat.mod_lt _ (by omega)
    rw [e, ← Nat.add_assoc]
    generalize j % 7 = r at hj hm
    match r, hm with
    | 0, _ => rw [Nat.add_zero, c0]; simpa [V7.cells] using hj
    | 1, _ => rw [c1]; simpa [V7.cells] using hj
    | 2, _ => rw [c2]; simpa [V7.cells] using hj
    | 3, _ => rw [c3]; simpa [V7.cells] using hj
    | 4, _ => rw [c4]; simpa [V7.cells] using hj
    | 5, _ => rw [c5]; simpa [V7.cells] using hj
    | 6, _ => rw [c6]; simpa [V7.cells] using hj
  · rw [List.getElem_map, List.getElem_range]
    exact (hf i h2 h2).2
theorem pairs_list {n : Nat} {W : World} {B : Nat} {a : Option Addr} {len : Nat} {l : List (ByteArray × Ex n)} (h : PairsIn (ExIn W B n) W B a len l) : ∃ qs : List (ByteArray × V7), qs.length = l.length ∧ (0 < len → ∃ g off, a = some ⟨g, off, none⟩ ∧ ∀ j u, (pcells qs)[j]? = some u → W.cell? ⟨g, off + j, none⟩ = some u) ∧ ∀ i (h1 : i < qs.length) (h2 : i < l.length), qs[i].1 = l[i].1 ∧ ExIn W B n qs[i].2 l[i].2 := by
  rcases Nat.eq_zero_or_pos l.length with h0 | h0
  · exact ⟨[], h0.symm, fun hp => by have := h.1; omega, fun i h1 => by simp at h1⟩
  obtain ⟨g, off, rfl, hg, hi⟩ := h.2.2 h0
  obtain ⟨p0, _⟩ := hi 0 h0
  haveI : Inhabited (ByteArray × V7) := ⟨(ByteArray.empty, p0)⟩
  obtain ⟨f, hf⟩ := choose_lt' (len := l.length) (Q := fun i (v : ByteArray × V7) => ∀ h : i < l.length, v.1 = l[i].1 ∧ W.cell? ⟨g, off + i * 8, none⟩ = some (.string v.1) ∧ EAt W g (off + i * 8 + 1) v.2 ∧ ExIn W B n v.2 l[i].2) (fun i hlt => by obtain ⟨v, h0, h1, h2⟩ := hi i hlt; exact ⟨(l[i].1, v), fun _ => ⟨rfl, h0, h1, h2⟩⟩)
  refine ⟨(List.range l.length).map f, by simp, fun _ => ⟨g, off, rfl, fun j u hj => ?_⟩, fun i h1 h2 => ?_⟩
  · have hjl : j < l.length * 8 := by
      have := (List.getElem?_eq_some_iff.1 hj).1
      rw [pcells_len] at this
      simpa using this
    have hd : j / 8 < l.length := Nat.div_lt_of_lt_mul (by omega)
    have e := at_div (m := 8) (by omega) j
    rw [e, pcells_at _ (j / 8) (by simpa using hd) (j % 8) (Nat.mod_lt _ (by omega))] at hj
    rw [List.getElem_map, List.getElem_range] at hj
    obtain ⟨_, b0, ⟨c0, c1, c2, c3, c4, c5, c6⟩, _⟩ := hf _ hd hd
    have hm : j % 8 < 8 := Nat.mod_lt _ (by omega)
    rw [e, ← Nat.add_assoc]
    generalize j % 8 = r at hj hm
    match r, hm with
    | 0, _ => rw [Nat.add_zero, b0]; simpa [V7.cells] using hj
    | 1, _ => rw [c0]; simpa [V7.cells] using hj
    | 2, _ => rw [show off + j / 8 * 8 + 2 = off + j / 8 * 8 + 1 + 1 from rfl, c1]; simpa [V7.cells] using hj
    | 3, _ => rw [show off + j / 8 * 8 + 3 = off + j / 8 * 8 + 1 + 2 from rfl, c2]; simpa [V7.cells] using hj
    | 4, _ => rw [show off + j / 8 * 8 + 4 = off + j / 8 * 8 + 1 + 3 from rfl, c3]; simpa [V7.cells] using hj
    | 5, _ => rw [show off + j / 8 * 8 + 5 = off + j / 8 * 8 + 1 + 4 from rfl, c4]; simpa [V7.cells] using hj
    | 6, _ => rw [show off + j / 8 * 8 + 6 = off + j / 8 * 8 + 1 + 5 from rfl, c5]; simpa [V7.cells] using hj
    | 7, _ => rw [show off + j / 8 * 8 + 7 = off + j / 8 * 8 + 1 + 6 from rfl, c6]; simpa [V7.cells] using hj
  · rw [List.getElem_map, List.getElem_range]
    exact ⟨(hf i h2 h2).1, (hf i h2 h2).2.2.2⟩
end Go.Proofs.YtigdibglkejciaaDoor.Ex
