/-
  Parts of an expression, in the reference and in the program.
-/
import Derived.Test.YtigdibglkejciaaDoorE10
import Derived.Deep.AppendLies
import Derived.Laws.AppendOwn
namespace Go.Proofs.YtigdibglkejciaaDoor.Ex
open Go.RowKit Go
set_option linter.unusedSimpArgs false

theorem info26 : (Tryd.prog.info? 26).map (fun i => (i.zero, i.size, i.bytes)) = some (some (.agg #[.int .i64 0, .int .i64 0, .string ByteArray.empty, .slice none 0 0, .slice none 0 0, .bool false, .slice none 0 0]), 7, 112) := by kernel_rfl
theorem info_parts {P : Program} {t : TypeId} {z : Value} {s b : Nat} (h : (P.info? t).map (fun i => (i.zero, i.size, i.bytes)) = some (some z, s, b)) : ∃ i, P.info? t = some i ∧ i.zero = some z ∧ i.size = s ∧ i.bytes = b := by
  cases hi : P.info? t with
  | none => rw [hi] at h; cases h
  | some i => rw [hi] at h; simp at h; exact ⟨i, rfl, h.1, h.2.1, h.2.2⟩
/-- The parts. -/
def partsE (n : Nat) (x : Ex (n + 1)) : List (Ex n) := if x.1.op = 10 then x.2.2.1.map (·.2) else x.2.2.2
/-- Where a row of parts lies: below block B, or it is the call's own. -/
def PlaceIn (B : Nat) (w w' : World) (a : Option Addr) (len : Nat) : Prop := 0 < len → ∀ g off, a = some ⟨g, off, none⟩ → g < B ∨ (w.heap.size ≤ g ∧ ∃ c f, w'.heap[g]? = some (.cells c 26 f))
theorem PlaceIn.of_row {B base n : Nat} {w w' : World} {a : Option Addr} {len cap : Nat} {xs : List Value} (h : w'.ownsRow base 26 7 (.slice a len cap) n xs) (hb : w.heap.size ≤ base) : PlaceIn B w w' a len := by
  intro _ g off e
  obtain ⟨hx, ⟨e1, h0⟩ | ⟨g', cap', cur, e1, hg, hh, _⟩⟩ := h
  · cases e1; cases e
  · cases e1; cases e
    exact .inr ⟨by omega, _, _, hh⟩
theorem PlaceIn.of_kids {α : Type} {I : V7 → α → Prop} {W : World} {B : Nat} {a : Option Addr} {len : Nat} {l : List α} (h : KidsIn I W B a len l) (w w' : World) : PlaceIn B w w' a len := by
  intro hp g off e
  obtain ⟨g', off', e', hg, _⟩ := h.2.2 (by have := h.1; omega)
  rw [e'] at e; cases e
  exact .inl hg
def PartsPost (n B : Nat) (x : Ex (n + 1)) (w : World) (e : Ending) (w' : World) : Prop := ∃ a cap, e = .returned (.slice a (partsE n x).length cap) ∧ Below w.heap.size w w' ∧ KidsIn (ExIn w' B n) w' w'.heap.size a (partsE n x).length (partsE n x) ∧ PlaceIn B w w' a (partsE n x).length
theorem KidsIn.up {n : Nat} {W W' : World} {B : Nat} {a : Option Addr} {len : Nat} {l : List (Ex n)} (h : KidsIn (ExIn W B n) W B a len l) (hb : Below B W W') (hs : B ≤ W'.heap.size) : KidsIn (ExIn W' B n) W' W'.heap.size a len l :=
  ⟨h.1, h.2.1, fun hp => by
    obtain ⟨g, off, e, hg, hi⟩ := h.2.2 hp
    exact ⟨g, off, e, by omega, fun i hlt => by
      obtain ⟨v, h1, h2⟩ := hi i hlt
      exact ⟨v, h1.kept (fun o => hb.cell (p := ⟨g, o, none⟩) hg), ExIn.kept hb n _ _ h2⟩⟩⟩
def vcells (vs : List V7) : List Value := vs.flatMap V7.cells
theorem vcells_len : ∀ vs : List V7, (vcells vs).length = vs.length * 7
  | [] => rfl
  | v :: vs => by
    have := vcells_len vs
    simp only [vcells, List.flatMap_cons, List.length_append, List.length_cons] at this ⊢
    have e : v.cells.length = 7 := rfl
    omega
theorem vcells_at : ∀ (vs : List V7) (i : Nat) (h : i < vs.length) (j : Nat), j < 7 → (vcells vs)[i * 7 + j]? = vs[i].cells[j]?
  | v :: vs, 0, _, j, hj => by
    show (v.cells ++ vcells vs)[0 * 7 + j]? = _
    rw [List.getElem?_append_left (by show 0 * 7 + j < 7; omega)]
    simp
  | v :: vs, i + 1, h, j, hj => by
    have := vcells_at vs i (by simpa using h) j hj
    show (v.cells ++ vcells vs)[(i + 1) * 7 + j]? = _
    rw [List.getElem?_append_right (by show 7 ≤ _; omega)]
    have e : (i + 1) * 7 + j - v.cells.length = i * 7 + j := by show (i + 1) * 7 + j - 7 = _; omega
    rw [e, this]
    rfl
theorem vcells_snoc (vs : List V7) (v : V7) : vcells (vs ++ [v]) = vcells vs ++ v.cells := by simp [vcells]
/-- From a row of expressions' cells. -/
theorem KidsIn.of_row {n B : Nat} {W : World} {base : Nat} {a : Option Addr} {len cap : Nat} {vs : List V7} {l : List (Ex n)} (h : W.ownsRow base 26 7 (.slice a len cap) len (vcells vs)) (hlen : vs.length = l.length) (hl : len = l.length) (hm : l.length ≤ maxLen) (hI : ∀ i (h1 : i < vs.length) (h2 : i < l.length), ExIn W B n vs[i] l[i]) :
    KidsIn (ExIn W B n) W W.heap.size a len l := by
  refine ⟨hl, hm, fun hp => ?_⟩
  have hc : ∀ g, (Value.slice a len cap).ownBlock = some g → _ := fun g hg => h.cells hg
  obtain ⟨hx, ⟨e, h0⟩ | ⟨g, cap', cur, e, hg, hh, _⟩⟩ := h
  · omega
  · cases e
    refine ⟨g, 0, rfl, (Array.getElem?_eq_some_iff.1 hh).1, fun i hi => ⟨vs[i], EAt.of_cells (fun j hj => ?_), hI i (by omega) hi⟩⟩
    have e1 := vcells_at vs i (by omega) j hj
    have e2 : vs[i].cells[j]? = some (vs[i].cells[j]'(by show j < 7; omega)) := List.getElem?_eq_getElem _
    have := hc g rfl (i * 7 + j) _ (e1.trans e2)
    rw [Addr.add_lit] at this
    rw [e2, ← this]
    congr 2
    omega
end Go.Proofs.YtigdibglkejciaaDoor.Ex
