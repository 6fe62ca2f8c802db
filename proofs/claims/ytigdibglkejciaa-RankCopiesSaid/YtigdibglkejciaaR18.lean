/-
  Values in memory of the call's own, whole or half copied.
-/
import Derived.Test.YtigdibglkejciaaR17
namespace Go.Proofs.Ytigdibglkejciaa.Rank
open Go.RowKit

/-- A whole block of elements of type T, from block lo on. -/
def own (T : TypeId) (lo : Nat) (w : World) (b off : Nat) : Prop := off = 0 ∧ lo ≤ b ∧ blk w T b
def ValOwn (w : World) (lo : Nat) (n : Nat) (a : Option Addr) (len cap : Nat) (v : List (Trm n)) : Prop := ValAt w (own 33 lo w) (own 87 lo w) n a len cap v
def FsOwn (w : World) (lo : Nat) (n : Nat) (a : Option Addr) (len cap : Nat) (fs : List (ByteArray × List (Trm n))) : Prop := FsAt (ValOwn w lo n) w (own 87 lo w) a len cap fs

/-- From memory to memory: what is own stays as it is. -/
def Stays (lo : Nat) (w w' : World) : Prop := ∀ b T, lo ≤ b → blk w T b → (∀ o, w'.cell? ⟨b, o, none⟩ = w.cell? ⟨b, o, none⟩) ∧ blk w' T b
theorem Stays.kept {lo : Nat} {w w' : World} (h : Stays lo w w') : Kept (own 33 lo w) (own 87 lo w) w w' :=
  ⟨fun b _ hb o => (h b 33 hb.2.1 hb.2.2).1 o, fun b _ hb o => (h b 87 hb.2.1 hb.2.2).1 o⟩
theorem Stays.own {lo lo' : Nat} {w w' : World} (h : Stays lo w w') (hl : lo' ≤ lo) (T : TypeId) (b o : Nat) (hb : Rank.own T lo w b o) : Rank.own T lo' w' b o := ⟨hb.1, Nat.le_trans hl hb.2.1, (h b T hb.2.1 hb.2.2).2⟩
theorem ValOwn.stays {lo lo' : Nat} {w w' : World} {n : Nat} {a : Option Addr} {len cap : Nat} {v : List (Trm n)} (h : ValOwn w lo n a len cap v) (hs : Stays lo w w') (hl : lo' ≤ lo) : ValOwn w' lo' n a len cap v :=
  ValAt.mono (hs.own hl 33) (hs.own hl 87) (ValAt.kept hs.kept h)
theorem FsOwn.stays {lo lo' : Nat} {w w' : World} {n : Nat} {a : Option Addr} {len cap : Nat} {v : List (ByteArray × List (Trm n))} (h : FsOwn w lo n a len cap v) (hs : Stays lo w w') (hl : lo' ≤ lo) : FsOwn w' lo' n a len cap v := by
  have h1 : FsAt (ValOwn w' lo' n) w' (own 87 lo w) a len cap v := FsAt.kept (V' := ValOwn w' lo' n) hs.kept (fun _ _ _ _ hv => ValOwn.stays hv hs hl) h
  exact FsAt.mono (hs.own hl 87) (fun _ _ _ _ hv => hv) h1
theorem Stays.below {lo : Nat} {w w' : World} (h : Below w.heap.size w w') : Stays lo w w' := fun b _ _ hk => ⟨fun o => h.cell (p := ⟨b, o, none⟩) hk.lt, hk.below h hk.lt⟩
theorem Stays.set {lo g o : Nat} {w : World} {u : Value} (h : g < lo) : Stays lo w (w.setCell ⟨g, o, none⟩ u) := fun b _ hb hk => ⟨fun o' => cell_set_ne _ _ _ _ _ _ (Or.inl (by omega)), hk.setCell _ _⟩
theorem Stays.mono {lo lo' : Nat} {w w' : World} (h : Stays lo w w') (hl : lo ≤ lo') : Stays lo' w w' := fun b T hb hk => h b T (Nat.le_trans hl hb) hk
theorem Stays.refl (lo : Nat) (w : World) : Stays lo w w := fun _ _ _ hk => ⟨fun _ => rfl, hk⟩

/-- A slice of terms of which the first i have their own fields. -/
def InT (w : World) (lo B n g i : Nat) (v : List (Trm (n + 1))) : Prop := ∀ j (hj : j < v.length), ∃ fa fl fc, PlAt w g 0 j v[j].1 fa fl fc ∧ (j < i → FsOwn w lo n fa fl fc v[j].2) ∧ (i ≤ j → FsIn w B n fa fl fc v[j].2)
/-- A slice of fields of which the first k have their own values. -/
def InF (w : World) (lo B n h k : Nat) (fs : List (ByteArray × List (Trm n))) : Prop := ∀ l (hl : l < fs.length), w.cell? ⟨h, 0 + l * 2, none⟩ = some (.string fs[l].1) ∧ ∃ ta tl tc, w.cell? ⟨h, 0 + l * 2 + 1, none⟩ = some (.slice ta tl tc) ∧
  (l < k → ValOwn w lo n ta tl tc fs[l].2) ∧ (k ≤ l → ValIn w B n ta tl tc fs[l].2)

theorem InT.below {w w' : World} {lo B n g i : Nat} {v : List (Trm (n + 1))} (h : InT w lo B n g i v) (hb : Below w.heap.size w w') (hg : g < w.heap.size) (hB : B ≤ w.heap.size) : InT w' lo B n g i v := fun j hj => by
  obtain ⟨fa, fl, fc, hp, h1, h2⟩ := h j hj
  exact ⟨fa, fl, fc, hp.kept (fun o => hb.cell (p := ⟨g, o, none⟩) hg), fun hi => (h1 hi).stays (Stays.below hb) (Nat.le_refl _), fun hi => (h2 hi).below (hb.mono hB)⟩
theorem InF.below {w w' : World} {lo B n g i : Nat} {v : List (ByteArray × List (Trm n))} (h : InF w lo B n g i v) (hb : Below w.heap.size w w') (hg : g < w.heap.size) (hB : B ≤ w.heap.size) : InF w' lo B n g i v := fun j hj => by
  obtain ⟨c0, ta, tl, tc, c1, h1, h2⟩ := h j hj
  exact ⟨(hb.cell (p := ⟨g, _, none⟩) hg).trans c0, ta, tl, tc, (hb.cell (p := ⟨g, _, none⟩) hg).trans c1, fun hi => (h1 hi).stays (Stays.below hb) (Nat.le_refl _), fun hi => (h2 hi).below (hb.mono hB)⟩
theorem below_set {w : World} {B g o : Nat} {u : Value} (h : B ≤ g) : Below B w (w.setCell ⟨g, o, none⟩ u) := (Below.refl _ _).setCell h _
theorem InF.set {w : World} {lo B n h k : Nat} {fs : List (ByteArray × List (Trm n))} {ta : Option Addr} {tl tc : Nat} (hf : InF w lo B n h k fs) (hk : k < fs.length) (hv : ValOwn w lo n ta tl tc fs[k].2) (hlo : h < lo) (hB : B ≤ h) :
    InF (w.setCell ⟨h, k * 2 + 1, none⟩ (.slice ta tl tc)) lo B n h (k + 1) fs := fun l hl => by
  obtain ⟨c0, xa, xl, xc, c1, h1, h2⟩ := hf l hl
  refine ⟨(cell_set_ne _ _ _ _ _ _ (Or.inr (by omega))).trans c0, ?_⟩
  by_cases e : l = k
  · subst e
    refine ⟨ta, tl, tc, ?_, fun _ => hv.stays (Stays.set hlo) (Nat.le_refl _), fun h => absurd h (by omega)⟩
    rw [Nat.zero_add] at c1 ⊢
    exact World.cell?_setCell_same _ _ _ c1
  · exact ⟨xa, xl, xc, (cell_set_ne _ _ _ _ _ _ (Or.inr (by omega))).trans c1, fun hi => (h1 (by omega)).stays (Stays.set hlo) (Nat.le_refl _), fun hi => (h2 (by omega)).below (below_set hB)⟩
theorem InT.set {w : World} {lo B n g i : Nat} {v : List (Trm (n + 1))} {oa : Option Addr} {ol oc : Nat} (hf : InT w lo B n g i v) (hi : i < v.length) (hv : FsOwn w lo n oa ol oc v[i].2) (hlo : g < lo) (hB : B ≤ g) :
    InT (w.setCell ⟨g, i * 8 + 7, none⟩ (.slice oa ol oc)) lo B n g (i + 1) v := fun l hl => by
  obtain ⟨fa, fl, fc, hp, h1, h2⟩ := hf l hl
  obtain ⟨c0, c1, c2, c3, c4, c5, c6, c7⟩ := hp
  have S : ∀ o, o ≠ i * 8 + 7 → (w.setCell ⟨g, i * 8 + 7, none⟩ (.slice oa ol oc)).cell? ⟨g, o, none⟩ = w.cell? ⟨g, o, none⟩ := fun o ho => cell_set_ne _ _ _ _ _ _ (Or.inr (Ne.symm ho))
  have P : ∀ {x : Value} {r : Nat}, r < 7 → w.cell? ⟨g, 0 + l * 8 + r, none⟩ = some x → (w.setCell ⟨g, i * 8 + 7, none⟩ (.slice oa ol oc)).cell? ⟨g, 0 + l * 8 + r, none⟩ = some x := fun hr hx => (S _ (by omega)).trans hx
  by_cases e : l = i
  · subst e
    refine ⟨oa, ol, oc, ⟨P (r := 0) (by omega) c0, P (by omega) c1, P (by omega) c2, P (by omega) c3, P (by omega) c4, P (by omega) c5, P (by omega) c6, ?_⟩, fun _ => hv.stays (Stays.set hlo) (Nat.le_refl _), fun h => absurd h (by omega)⟩
    rw [Nat.zero_add] at c7 ⊢
    exact World.cell?_setCell_same _ _ _ c7
  · exact ⟨fa, fl, fc, ⟨P (r := 0) (by omega) c0, P (by omega) c1, P (by omega) c2, P (by omega) c3, P (by omega) c4, P (by omega) c5, P (by omega) c6, (S _ (by omega)).trans c7⟩, fun hj => (h1 (by omega)).stays (Stays.set hlo) (Nat.le_refl _), fun hj => (h2 (by omega)).below (below_set hB)⟩
theorem InF.done {w : World} {lo lo' B n h cap : Nat} {fs : List (ByteArray × List (Trm n))} (hf : InF w lo B n h fs.length fs) (hk : blk w 87 h) (h1 : lo' ≤ h) (h2 : lo' ≤ lo) (hc : fs.length ≤ cap) (hm : cap ≤ maxLen) : FsOwn w lo' n (some ⟨h, 0, none⟩) fs.length cap fs := by
  refine ⟨rfl, hc, hm, (fun h => by cases h), fun _ => ⟨h, 0, rfl, ⟨rfl, h1, hk⟩, fun i hi => ?_⟩⟩
  obtain ⟨c0, ta, tl, tc, c1, g1, _⟩ := hf i hi
  exact ⟨c0, ta, tl, tc, c1, (g1 hi).stays (Stays.refl _ _) h2⟩
theorem InT.done {w : World} {lo lo' B n g cap : Nat} {v : List (Trm (n + 1))} (hf : InT w lo B n g v.length v) (hk : blk w 33 g) (h1 : lo' ≤ g) (h2 : lo' ≤ lo) (hc : v.length ≤ cap) (hm : cap ≤ maxLen) : ValOwn w lo' (n + 1) (some ⟨g, 0, none⟩) v.length cap v := by
  refine ⟨rfl, hc, hm, (fun h => by cases h), fun _ => ⟨g, 0, rfl, ⟨rfl, h1, hk⟩, fun i hi => ?_⟩⟩
  obtain ⟨fa, fl, fc, hp, g1, _⟩ := hf i hi
  exact ⟨fa, fl, fc, hp, (g1 hi).stays (Stays.refl _ _) h2⟩
theorem fs_none {w : World} {lo n cap : Nat} {a : Option Addr} (hm : cap ≤ maxLen) (hn : a = none → cap = 0) : FsOwn w lo n a 0 cap [] := ⟨rfl, Nat.zero_le _, hm, hn, fun h => absurd rfl h⟩
theorem val_none {w : World} {lo n cap : Nat} {a : Option Addr} (hm : cap ≤ maxLen) (hn : a = none → cap = 0) : ValOwn w lo n a 0 cap [] := by
  cases n with
  | zero => exact ⟨rfl, hm, hn⟩
  | succ n => exact ⟨rfl, Nat.zero_le _, hm, hn, fun h => absurd rfl h⟩
/-- What is own reads as any value. -/
theorem ValOwn.inn {w : World} {lo n : Nat} {a : Option Addr} {len cap : Nat} {v : List (Trm n)} (h : ValOwn w lo n a len cap v) : ValIn w w.heap.size n a len cap v :=
  ValAt.mono (fun _ _ hb => hb.2.2.lt) (fun _ _ hb => hb.2.2.lt) h
end Go.Proofs.Ytigdibglkejciaa.Rank
