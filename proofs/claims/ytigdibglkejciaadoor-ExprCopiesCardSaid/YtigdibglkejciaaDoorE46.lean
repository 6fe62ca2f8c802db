/-
  Seven cells stored; rows that are copied element by element.
-/
import Derived.Test.YtigdibglkejciaaDoorE44
namespace Go.Proofs.YtigdibglkejciaaDoor.Ex
open Go.RowKit Go
set_option linter.unusedSimpArgs false

/-- An expression's seven cells, stored. -/
def st7 (W : World) (h o : Nat) (v : V7) : World := ((((((W.setCell ⟨h, o, none⟩ (.int .i64 v.op)).setCell ⟨h, o + 1, none⟩ (.int .i64 v.num)).setCell ⟨h, o + 2, none⟩ (.string v.tx)).setCell ⟨h, o + 3, none⟩ (.slice v.pa v.pl v.pc)).setCell ⟨h, o + 4, none⟩ (.slice v.qa v.ql v.qc)).setCell ⟨h, o + 5, none⟩ (.bool v.opn)).setCell ⟨h, o + 6, none⟩ (.slice v.ka v.kl v.kc)
theorem st7_far {W : World} {h o : Nat} {v : V7} {b o' : Nat} (hn : h ≠ b ∨ o' < o ∨ o + 7 ≤ o') : (st7 W h o v).cell? ⟨b, o', none⟩ = W.cell? ⟨b, o', none⟩ := by
  unfold st7
  rw [cell_set_ne _ _ _ _ _ _ (by omega), cell_set_ne _ _ _ _ _ _ (by omega), cell_set_ne _ _ _ _ _ _ (by omega), cell_set_ne _ _ _ _ _ _ (by omega), cell_set_ne _ _ _ _ _ _ (by omega), cell_set_ne _ _ _ _ _ _ (by omega), cell_set_ne _ _ _ _ _ _ (by omega)]
theorem st7_eat {W : World} {h o : Nat} {u v : V7} (he : EAt W h o u) : EAt (st7 W h o v) h o v := by
  obtain ⟨c0, c1, c2, c3, c4, c5, c6⟩ := he
  unfold st7
  refine ⟨?_, ?_, ?_, ?_, ?_, ?_, ?_⟩
  · rw [cell_set_ne _ _ _ _ _ _ (by omega), cell_set_ne _ _ _ _ _ _ (by omega), cell_set_ne _ _ _ _ _ _ (by omega), cell_set_ne _ _ _ _ _ _ (by omega), cell_set_ne _ _ _ _ _ _ (by omega), cell_set_ne _ _ _ _ _ _ (by omega)]
    exact World.cell?_setCell_same _ _ _ c0
  · rw [cell_set_ne _ _ _ _ _ _ (by omega), cell_set_ne _ _ _ _ _ _ (by omega), cell_set_ne _ _ _ _ _ _ (by omega), cell_set_ne _ _ _ _ _ _ (by omega), cell_set_ne _ _ _ _ _ _ (by omega)]
    exact World.cell?_setCell_same (u := .int .i64 u.num) _ _ _ (by rw [cell_set_ne _ _ _ _ _ _ (by omega)]; exact c1)
  · rw [cell_set_ne _ _ _ _ _ _ (by omega), cell_set_ne _ _ _ _ _ _ (by omega), cell_set_ne _ _ _ _ _ _ (by omega), cell_set_ne _ _ _ _ _ _ (by omega)]
    exact World.cell?_setCell_same (u := .string u.tx) _ _ _ (by rw [cell_set_ne _ _ _ _ _ _ (by omega), cell_set_ne _ _ _ _ _ _ (by omega)]; exact c2)
  · rw [cell_set_ne _ _ _ _ _ _ (by omega), cell_set_ne _ _ _ _ _ _ (by omega), cell_set_ne _ _ _ _ _ _ (by omega)]
    exact World.cell?_setCell_same (u := .slice u.pa u.pl u.pc) _ _ _ (by rw [cell_set_ne _ _ _ _ _ _ (by omega), cell_set_ne _ _ _ _ _ _ (by omega), cell_set_ne _ _ _ _ _ _ (by omega)]; exact c3)
  · rw [cell_set_ne _ _ _ _ _ _ (by omega), cell_set_ne _ _ _ _ _ _ (by omega)]
    exact World.cell?_setCell_same (u := .slice u.qa u.ql u.qc) _ _ _ (by rw [cell_set_ne _ _ _ _ _ _ (by omega), cell_set_ne _ _ _ _ _ _ (by omega), cell_set_ne _ _ _ _ _ _ (by omega), cell_set_ne _ _ _ _ _ _ (by omega)]; exact c4)
  · rw [cell_set_ne _ _ _ _ _ _ (by omega)]
    exact World.cell?_setCell_same (u := .bool u.opn) _ _ _ (by rw [cell_set_ne _ _ _ _ _ _ (by omega), cell_set_ne _ _ _ _ _ _ (by omega), cell_set_ne _ _ _ _ _ _ (by omega), cell_set_ne _ _ _ _ _ _ (by omega), cell_set_ne _ _ _ _ _ _ (by omega)]; exact c5)
  · exact World.cell?_setCell_same (u := .slice u.ka u.kl u.kc) _ _ _ (by rw [cell_set_ne _ _ _ _ _ _ (by omega), cell_set_ne _ _ _ _ _ _ (by omega), cell_set_ne _ _ _ _ _ _ (by omega), cell_set_ne _ _ _ _ _ _ (by omega), cell_set_ne _ _ _ _ _ _ (by omega), cell_set_ne _ _ _ _ _ _ (by omega)]; exact c6)
theorem st7_blk {W : World} {h o : Nat} {v : V7} {T : TypeId} {b : Nat} (hk : blk W T b) : blk (st7 W h o v) T b :=
  ((((((hk.setCell _ _).setCell _ _).setCell _ _).setCell _ _).setCell _ _).setCell _ _).setCell _ _
theorem st7_heap {W : World} {h o : Nat} {v : V7} {g : Nat} (hn : g ≠ h) : (st7 W h o v).heap[g]? = W.heap[g]? := by
  unfold st7
  rw [Below.heap_setCell _ _ _ _ hn, Below.heap_setCell _ _ _ _ hn, Below.heap_setCell _ _ _ _ hn, Below.heap_setCell _ _ _ _ hn, Below.heap_setCell _ _ _ _ hn, Below.heap_setCell _ _ _ _ hn, Below.heap_setCell _ _ _ _ hn]
theorem st7_size {W : World} {h o : Nat} {v : V7} : (st7 W h o v).heap.size = W.heap.size := by
  unfold st7
  simp only [World.size_setCell]
theorem st7_below {W : World} {h o B : Nat} {v : V7} (hB : B ≤ h) : Below B W (st7 W h o v) := by
  unfold st7
  exact (((((((Below.refl B W).setCell hB _).setCell hB _).setCell hB _).setCell hB _).setCell hB _).setCell hB _).setCell hB _
theorem SX.st7 {b g o : Nat} {c : Array Value} {W : World} {v : V7} (h : SX b c W) (hne : g ≠ b) : SX b c (st7 W g o v) := ⟨fun o' => (st7_far (Or.inl hne)).trans (h.1 o'), by rw [st7_size]; exact h.2⟩
theorem Stays.st7 {lo g o : Nat} {w : World} {v : V7} (h : g < lo) : Stays lo w (st7 w g o v) := fun _ b hb hk => ⟨fun o' => st7_far (Or.inl (by omega)), st7_blk hk⟩
/-- Half copied pairs, kids. -/
def InP (W : World) (lo B n h k : Nat) (l : List (ByteArray × Ex n)) : Prop := ∀ i (hi : i < l.length), W.cell? ⟨h, i * 8, none⟩ = some (.string l[i].1) ∧ ∃ v, EAt W h (i * 8 + 1) v ∧ (i < k → ExOwn W lo n v l[i].2) ∧ (k ≤ i → ExIn W B n v l[i].2)
def InK (W : World) (lo B n h k : Nat) (l : List (Ex n)) : Prop := ∀ i (hi : i < l.length), ∃ v, EAt W h (i * 7) v ∧ (i < k → ExOwn W lo n v l[i]) ∧ (k ≤ i → ExIn W B n v l[i])
theorem ExOwn.low {W : World} {lo lo' n : Nat} {v : V7} {x : Ex n} (h : ExOwn W lo n v x) (hl : lo' ≤ lo) : ExOwn W lo' n v x :=
  h.stays (Stays.below (Below.refl _ _)) hl
theorem inP_next {wr wq : World} {lo B n h k : Nat} {l : List (ByteArray × Ex n)} {vn : V7} (hI : InP wr lo B n h k l) (hb : Below wr.heap.size wr wq) (hw : h < wr.heap.size) (hhl : h < lo) (hBh : B ≤ h) (hk : k < l.length) (hown : ExOwn wq lo n vn l[k].2) : InP (st7 wq h (k * 8 + 1) vn) lo B n h (k + 1) l := by
  intro i hi
  obtain ⟨c, v, hE, h1, h2⟩ := hI i hi
  have c' := (hb.cell (p := ⟨h, i * 8, none⟩) hw).trans c
  have hE' := hE.kept (W' := wq) (fun o => hb.cell (p := ⟨h, o, none⟩) hw)
  by_cases e : i = k
  · subst e
    exact ⟨(st7_far (Or.inr (Or.inl (by omega)))).trans c', vn, st7_eat hE', fun _ => hown.stays (Stays.st7 hhl) (Nat.le_refl _), fun h => by omega⟩
  · refine ⟨(st7_far (Or.inr (by omega))).trans c', v, ?_, fun hik => ?_, fun hik => ?_⟩
    · obtain ⟨a0, a1, a2, a3, a4, a5, a6⟩ := hE'
      exact ⟨(st7_far (Or.inr (by omega))).trans a0, (st7_far (Or.inr (by omega))).trans a1, (st7_far (Or.inr (by omega))).trans a2, (st7_far (Or.inr (by omega))).trans a3, (st7_far (Or.inr (by omega))).trans a4, (st7_far (Or.inr (by omega))).trans a5, (st7_far (Or.inr (by omega))).trans a6⟩
    · exact ((h1 (by omega)).stays (Stays.below hb) (Nat.le_refl _)).stays (Stays.st7 hhl) (Nat.le_refl _)
    · exact ExIn.kept (st7_below hBh) n _ _ (ExIn.kept (hb.mono (by omega)) n _ _ (h2 (by omega)))
theorem inK_next {wr wq : World} {lo B n h k : Nat} {l : List (Ex n)} {vn : V7} (hI : InK wr lo B n h k l) (hb : Below wr.heap.size wr wq) (hw : h < wr.heap.size) (hhl : h < lo) (hBh : B ≤ h) (hk : k < l.length) (hown : ExOwn wq lo n vn l[k]) : InK (st7 wq h (k * 7) vn) lo B n h (k + 1) l := by
  intro i hi
  obtain ⟨v, hE, h1, h2⟩ := hI i hi
  have hE' := hE.kept (W' := wq) (fun o => hb.cell (p := ⟨h, o, none⟩) hw)
  by_cases e : i = k
  · subst e
    exact ⟨vn, st7_eat hE', fun _ => hown.stays (Stays.st7 hhl) (Nat.le_refl _), fun h => by omega⟩
  · refine ⟨v, ?_, fun hik => ?_, fun hik => ?_⟩
    · obtain ⟨a0, a1, a2, a3, a4, a5, a6⟩ := hE'
      exact ⟨(st7_far (Or.inr (by omega))).trans a0, (st7_far (Or.inr (by omega))).trans a1, (st7_far (Or.inr (by omega))).trans a2, (st7_far (Or.inr (by omega))).trans a3, (st7_far (Or.inr (by omega))).trans a4, (st7_far (Or.inr (by omega))).trans a5, (st7_far (Or.inr (by omega))).trans a6⟩
    · exact ((h1 (by omega)).stays (Stays.below hb) (Nat.le_refl _)).stays (Stays.st7 hhl) (Nat.le_refl _)
    · exact ExIn.kept (st7_below hBh) n _ _ (ExIn.kept (hb.mono (by omega)) n _ _ (h2 (by omega)))
/-- While row h is worked on. -/
structure PL (w wc : World) (h : Nat) (W : World) : Prop where
  bel : Below w.heap.size w W
  size : wc.heap.size ≤ W.heap.size
  but : ∀ g, g < wc.heap.size → g ≠ h → W.heap[g]? = wc.heap[g]?
theorem PL.next {w wc wr wq : World} {h o : Nat} {vn : V7} (hp : PL w wc h wr) (hb : Below wr.heap.size wr wq) (hh : w.heap.size ≤ h) : PL w wc h (st7 wq h o vn) :=
  ⟨(hp.bel.trans (hb.mono hp.bel.size)).trans (st7_below hh), by rw [st7_size]; exact Nat.le_trans hp.size hb.size, fun g hg hn => by rw [st7_heap hn, hb.block g (by have := hp.size; omega)]; exact hp.but g hg hn⟩
theorem PL.same {w wc W : World} {h : Nat} (hp : PL w wc h W) {T : TypeId} {g : Nat} (hk : blk wc T g) (hn : g ≠ h) : (∀ o, W.cell? ⟨g, o, none⟩ = wc.cell? ⟨g, o, none⟩) ∧ blk W T g := by
  have e := hp.but g hk.lt hn
  refine ⟨fun o => World.cell?_of_block (w := wc) e, ?_⟩
  obtain ⟨c, hc⟩ := hk
  exact ⟨c, e.trans hc⟩
theorem PL.stays {w wc W : World} {h lo : Nat} (hp : PL w wc h W) (hl : h < lo) : Stays lo wc W := fun _ g hg hk => hp.same hk (by omega)
end Go.Proofs.YtigdibglkejciaaDoor.Ex
