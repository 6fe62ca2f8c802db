/-
  slices.Clone of terms and of fields: a slice of the call's own that holds the same cells.
-/
import Derived.Test.YtigdibglkejciaaR13
import Derived.Lib.SliceRun
import Derived.Lib.Walk
import Derived.Laws.AppendOwn
import Derived.OneCell
namespace Go.Proofs.Ytigdibglkejciaa.Rank
open Go.RowKit

theorem info33 : (Try.prog.info? 33).map (fun i => (i.zero, i.size, i.bytes)) = some (some (.agg #[.int .i64 0, .int .i64 0, .int .i64 0, .string ByteArray.empty, .bool false, .bool false, .bool false, .slice none 0 0]), 8, 72) := by kernel_rfl
theorem info87 : (Try.prog.info? 87).map (fun i => (i.zero, i.size, i.bytes)) = some (some (.agg #[.string ByteArray.empty, .slice none 0 0]), 2, 40) := by kernel_rfl

set_option maxHeartbeats 2000000 in
set_option maxRecDepth 100000 in
theorem cloneT_own (a : Addr) (n c : Nat) (news : List Value) (w : World) (hl : news.length = n * 8) (hn : n ≤ 200)
    (hc : ∀ j u, news[j]? = some u → w.cell? (a.add j) = some u) (h1 : ∀ u ∈ news, u.oneCell' = true) :
    Calls Try.prog 76 #[.slice (some a) n c] w fun e w' => ∃ v', e = .returned v' ∧ w'.ownsRow w.heap.size 33 8 v' n news ∧ v' ≠ .slice none 0 0 ∧ Below w.heap.size w w' := by
  have q22 : ∀ (w : World) (a : Option Addr) (n c n' c' : Nat), (binOp .eql 45 (.slice a n c) (.slice none n' c')).run Try.prog w = .ok (.bool a.isNone) w := fun w a n c n' c' => Lib.run_eql_slice_nil w _ _ a n c n' c' Try.underlying45
  obtain ⟨i0, hi, hz0, hz1, hz2⟩ := info_parts info33
  have A := Lib.hid hc
  clear hc
  go_enter Try.func76, Try.ntmps76
  go_wp2_with (at_builtin; refine wpList_append_own _ rfl _ _ 45 rfl w.heap.size 33 i0 _ 8 72 Try.underlying45 hi hz0 hz1 hz2 (by rfl) (by decide) _ _ _ rfl (World.ownsRow_made w #[] 0 (Nat.le_refl _) (Nat.zero_le _) (by simp)) a n c news rfl ?qc1 ?qc2 ?qc3 ?qc4 ?qc5 ?qc6 ?_)
  case qc1 => exact hl
  case qc2 =>
    intro j u hj
    exact Lib.cell?_alloc_some _ (A.out j u hj)
  case qc3 => exact h1
  case qc4 => unfold maxLen; omega
  case qc5 => omega
  case qc6 => simp
  intro v' w1 hown hgrow hnil
  go_wp2
  go_ret
  refine ⟨v', rfl, by simpa using hown, ?_, ?_⟩
  · exact hnil
  · exact ((Below.refl _ w).alloc (Nat.le_refl _) _).grown hgrow (by simp) (by intro k hk; simp [Value.ownBlock] at hk; omega)
set_option maxHeartbeats 2000000 in
set_option maxRecDepth 100000 in
theorem cloneF_own (a : Addr) (n c : Nat) (news : List Value) (w : World) (hl : news.length = n * 2) (hn : n ≤ 200)
    (hc : ∀ j u, news[j]? = some u → w.cell? (a.add j) = some u) (h1 : ∀ u ∈ news, u.oneCell' = true) :
    Calls Try.prog 77 #[.slice (some a) n c] w fun e w' => ∃ v', e = .returned v' ∧ w'.ownsRow w.heap.size 87 2 v' n news ∧ v' ≠ .slice none 0 0 ∧ Below w.heap.size w w' := by
  have q22 : ∀ (w : World) (a : Option Addr) (n c n' c' : Nat), (binOp .eql 31 (.slice a n c) (.slice none n' c')).run Try.prog w = .ok (.bool a.isNone) w := fun w a n c n' c' => Lib.run_eql_slice_nil w _ _ a n c n' c' Try.underlying31
  obtain ⟨i0, hi, hz0, hz1, hz2⟩ := info_parts info87
  have A := Lib.hid hc
  clear hc
  go_enter Try.func77, Try.ntmps77
  go_wp2_with (at_builtin; refine wpList_append_own _ rfl _ _ 31 rfl w.heap.size 87 i0 _ 2 40 Try.underlying31 hi hz0 hz1 hz2 (by rfl) (by decide) _ _ _ rfl (World.ownsRow_made w #[] 0 (Nat.le_refl _) (Nat.zero_le _) (by simp)) a n c news rfl ?qc1 ?qc2 ?qc3 ?qc4 ?qc5 ?qc6 ?_)
  case qc1 => exact hl
  case qc2 =>
    intro j u hj
    exact Lib.cell?_alloc_some _ (A.out j u hj)
  case qc3 => exact h1
  case qc4 => unfold maxLen; omega
  case qc5 => omega
  case qc6 => simp
  intro v' w1 hown hgrow hnil
  go_wp2
  go_ret
  refine ⟨v', rfl, by simpa using hown, ?_, ?_⟩
  · exact hnil
  · exact ((Below.refl _ w).alloc (Nat.le_refl _) _).grown hgrow (by simp) (by intro k hk; simp [Value.ownBlock] at hk; omega)
theorem cloneT_nil (n c : Nat) (w : World) : Calls Try.prog 76 #[.slice none n c] w fun e w' => e = .returned (.slice none 0 0) ∧ w = w' := by
  have q22 : ∀ (w : World) (a : Option Addr) (n c n' c' : Nat), (binOp .eql 45 (.slice a n c) (.slice none n' c')).run Try.prog w = .ok (.bool a.isNone) w := fun w a n c n' c' => Lib.run_eql_slice_nil w _ _ a n c n' c' Try.underlying45
  go_enter Try.func76, Try.ntmps76
  go_wp2
  go_ret
  exact ⟨rfl, rfl⟩
theorem cloneF_nil (n c : Nat) (w : World) : Calls Try.prog 77 #[.slice none n c] w fun e w' => e = .returned (.slice none 0 0) ∧ w = w' := by
  have q22 : ∀ (w : World) (a : Option Addr) (n c n' c' : Nat), (binOp .eql 31 (.slice a n c) (.slice none n' c')).run Try.prog w = .ok (.bool a.isNone) w := fun w a n c n' c' => Lib.run_eql_slice_nil w _ _ a n c n' c' Try.underlying31
  go_enter Try.func77, Try.ntmps77
  go_wp2
  go_ret
  exact ⟨rfl, rfl⟩

/-- Block b holds cells of elements of type T, none of them frozen. -/
def blk (w : World) (T : TypeId) (b : Nat) : Prop := ∃ cur, w.heap[b]? = some (.cells cur T (0, 0))
theorem blk.lt {w : World} {T : TypeId} {b : Nat} (h : blk w T b) : b < w.heap.size := by
  obtain ⟨cur, h⟩ := h
  exact lt_of_block h
theorem blk.free {w : World} {T : TypeId} {b : Nat} (h : blk w T b) (o : Nat) : w.frozen? ⟨b, o, none⟩ = false := by
  obtain ⟨cur, h⟩ := h
  simp [World.frozen?, h]
theorem blk.below {w w' : World} {T : TypeId} {b : Nat} (h : blk w T b) {B : Nat} (hB : Below B w w') (hb : b < B) : blk w' T b := by
  obtain ⟨cur, h⟩ := h
  exact ⟨cur, (hB.block b hb).trans h⟩
theorem blk.setCell {w : World} {T : TypeId} {b : Nat} (h : blk w T b) (a : Addr) (v : Value) : blk (w.setCell a v) T b := by
  obtain ⟨cur, h⟩ := h
  unfold blk World.setCell
  by_cases e : a.block = b
  · subst e
    refine ⟨if a.spot.isSome then cur else cur.setIfInBounds a.off v, ?_⟩
    have hlt := lt_of_block h
    simp only [Array.getElem?_modify, if_pos]
    rw [h]; rfl
  · refine ⟨cur, ?_⟩
    simp only [Array.getElem?_modify]
    rw [if_neg e, h]
theorem blk.alloc {w : World} {T : TypeId} {b : Nat} (h : blk w T b) (o : Obj) : blk (w.alloc o) T b :=
  h.below (Below.refl w.heap.size w |>.alloc (Nat.le_refl _) o) h.lt
theorem cell_set_ne (w : World) (b o b' o' : Nat) (v : Value) (h : b ≠ b' ∨ o ≠ o') : (w.setCell ⟨b, o, none⟩ v).cell? ⟨b', o', none⟩ = w.cell? ⟨b', o', none⟩ :=
  World.cell?_setCell_other _ _ _ _ (fun e => by injection e with e1 e2; exact h.elim (fun k => k e1) (fun k => k e2))
theorem ownsRow_at {w : World} {base : Nat} {T : TypeId} {size : Nat} {v : Value} {n : Nat} {xs : List Value} (h : w.ownsRow base T size v n xs) (hn : 0 < n) :
    ∃ g cap, v = .slice (some ⟨g, 0, none⟩) n cap ∧ base ≤ g ∧ blk w T g ∧ n ≤ cap ∧ cap ≤ maxLen ∧ ∀ j u, xs[j]? = some u → w.cell? ⟨g, j, none⟩ = some u := by
  have hc : ∀ g, v.ownBlock = some g → _ := fun g hg => h.cells hg
  obtain ⟨_, h0 | ⟨g, cap, cur, rfl, hb, hh, hl, hm, _, _⟩⟩ := h
  · omega
  · refine ⟨g, cap, rfl, hb, ⟨cur, hh⟩, hl, hm, fun j u hj => ?_⟩
    have := hc g rfl j u hj
    rwa [Addr.add_lit, Nat.zero_add] at this
theorem ownsRow_zero {w : World} {base : Nat} {T : TypeId} {size : Nat} {v : Value} {xs : List Value} (h : w.ownsRow base T size v 0 xs) :
    ∃ a cap, v = .slice a 0 cap ∧ cap ≤ maxLen ∧ (a = none → cap = 0) := by
  obtain ⟨_, ⟨rfl, _⟩ | ⟨g, cap, cur, rfl, _, _, _, hm, _, _⟩⟩ := h
  · exact ⟨none, 0, rfl, by unfold maxLen; omega, fun _ => rfl⟩
  · exact ⟨_, cap, rfl, hm, fun h => by cases h⟩

/-- The cells from an address on. -/
def rd (w : World) (b off m : Nat) : List Value := (List.range m).map fun j => (w.cell? ⟨b, off + j, none⟩).getD undef
theorem rd_at {w : World} {b off m : Nat} (h : ∀ j, j < m → (w.cell? ⟨b, off + j, none⟩).isSome) (j : Nat) (u : Value) (hj : (rd w b off m)[j]? = some u) : w.cell? ⟨b, off + j, none⟩ = some u := by
  have hlt : j < m := by have := (List.getElem?_eq_some_iff.1 hj).1; simpa [rd] using this
  obtain ⟨z, hz⟩ := Option.isSome_iff_exists.1 (h j hlt)
  rw [rd, List.getElem?_map, List.getElem?_range hlt] at hj
  simp only [Option.map_some, hz, Option.getD_some, Option.some.injEq] at hj
  rw [hz, hj]
theorem at_rd {w : World} {b off m : Nat} (j : Nat) (u : Value) (hlt : j < m) (h : w.cell? ⟨b, off + j, none⟩ = some u) : (rd w b off m)[j]? = some u := by
  rw [rd, List.getElem?_map, List.getElem?_range hlt]
  simp [h]
/-- What a clone of terms leaves. -/
def CloneTPost (n B : Nat) (v : List (Trm (n + 1))) (w : World) (e : Ending) (w' : World) : Prop := ∃ (a : Option Addr) (cap g : Nat), e = .returned (.slice a v.length cap) ∧ v.length ≤ cap ∧ cap ≤ maxLen ∧ (a = none → cap = 0) ∧ Below w.heap.size w w' ∧
  (0 < v.length → a = some ⟨g, 0, none⟩ ∧ w.heap.size ≤ g ∧ blk w' 33 g ∧ ∀ j (hj : j < v.length), ∃ fa fl fc, PlAt w' g 0 j v[j].1 fa fl fc ∧ FsIn w' B n fa fl fc v[j].2)
theorem plAt_some {w : World} {b off i : Nat} {p : Pl} {fa : Option Addr} {fl fc : Nat} (h : PlAt w b off i p fa fl fc) (j : Nat) (hj : j < 8) : ∃ u, w.cell? ⟨b, off + (i * 8 + j), none⟩ = some u ∧ u.oneCell' = true := by
  obtain ⟨c0, c1, c2, c3, c4, c5, c6, c7⟩ := h
  simp only [← Nat.add_assoc]
  match j, hj with
  | 0, _ => exact ⟨_, c0, rfl⟩
  | 1, _ => exact ⟨_, c1, rfl⟩
  | 2, _ => exact ⟨_, c2, rfl⟩
  | 3, _ => exact ⟨_, c3, rfl⟩
  | 4, _ => exact ⟨_, c4, rfl⟩
  | 5, _ => exact ⟨_, c5, rfl⟩
  | 6, _ => exact ⟨_, c6, rfl⟩
  | 7, _ => exact ⟨_, c7, rfl⟩
theorem cloneT_any (n : Nat) (w : World) (B : Nat) (hB : B ≤ w.heap.size) (xa : Option Addr) (xn xc : Nat) (v : List (Trm (n + 1))) (hv : ValIn w B (n + 1) xa xn xc v) (hs : v.length ≤ 200) :
    Calls Try.prog 76 #[.slice xa xn xc] w (CloneTPost n B v w) := by
  obtain ⟨h1, h2, h3, h4, h5⟩ := hv
  cases xa with
  | none =>
    have h6 : v = [] := by
      apply Classical.byContradiction
      intro hne
      obtain ⟨_, _, e, _⟩ := h5 hne
      cases e
    subst h6
    obtain rfl : xn = 0 := h1
    exact (cloneT_nil 0 xc w).mono fun e w' ⟨he, hw⟩ => hw ▸ ⟨none, 0, 0, he, Nat.le_refl _, by unfold maxLen; omega, fun _ => rfl, Below.refl _ _, fun h => absurd h (by simp)⟩
  | some a =>
    by_cases h0 : v = []
    · subst h0
      obtain rfl : xn = 0 := h1
      refine (cloneT_own a 0 xc [] w rfl (by omega) (by intro j u hj; simp at hj) (by intro u hu; cases hu)).mono fun e w' ⟨v', he, ho, _, hb⟩ => ?_
      obtain ⟨a', cap, rfl, hm, hn⟩ := ownsRow_zero ho
      exact ⟨a', cap, 0, he, Nat.zero_le _, hm, hn, hb, fun h => absurd h (by simp)⟩
    · obtain ⟨b, off, e, hq, hi⟩ := h5 h0
      obtain rfl : a = ⟨b, off, none⟩ := by injection e
      have hpos : 0 < v.length := List.length_pos_iff.2 h0
      have cells : ∀ j, j < xn * 8 → ∃ u, w.cell? ⟨b, off + j, none⟩ = some u ∧ u.oneCell' = true := by
        intro j hj
        obtain ⟨fa, fl, fc, hp, _⟩ := hi (j / 8) (by omega)
        obtain ⟨u, hu, ho⟩ := plAt_some hp (j % 8) (by omega)
        rw [show j / 8 * 8 + j % 8 = j by omega] at hu
        exact ⟨u, hu, ho⟩
      have someC : ∀ j, j < xn * 8 → (w.cell? ⟨b, off + j, none⟩).isSome := fun j hj => by obtain ⟨u, hu, _⟩ := cells j hj; rw [hu]; rfl
      refine (cloneT_own ⟨b, off, none⟩ xn xc (rd w b off (xn * 8)) w (by simp [rd]) (by omega) (fun j u hj => by rw [Addr.add_lit]; exact rd_at someC j u hj) (fun u hu => ?_)).mono fun e w' ⟨v', he, ho, _, hb⟩ => ?_
      · obtain ⟨j, hj, rfl⟩ := List.mem_map.1 hu
        obtain ⟨u, hu, ho⟩ := cells j (by simpa using hj)
        rw [hu]; exact ho
      · obtain ⟨g, cap, rfl, hg, hk, hl, hm, hat⟩ := ownsRow_at ho (by omega)
        subst h1
        refine ⟨_, cap, g, he, hl, hm, (fun h => by cases h), hb, fun _ => ⟨rfl, hg, hk, fun j hj => ?_⟩⟩
        obtain ⟨fa, fl, fc, hp, hf⟩ := hi j hj
        refine ⟨fa, fl, fc, ?_, FsIn.below (B := B) hf (hb.mono hB)⟩
        have G : ∀ r, r < 8 → w'.cell? ⟨g, 0 + j * 8 + r, none⟩ = w.cell? ⟨b, off + j * 8 + r, none⟩ := by
          intro r hr
          obtain ⟨u, hu, _⟩ := cells (j * 8 + r) (by omega)
          have := hat (j * 8 + r) u (at_rd _ u (by omega) hu)
          rw [Nat.zero_add, this, Nat.add_assoc, hu]
        obtain ⟨c0, c1, c2, c3, c4, c5, c6, c7⟩ := hp
        exact ⟨(G 0 (by omega)).trans c0, (G 1 (by omega)).trans c1, (G 2 (by omega)).trans c2, (G 3 (by omega)).trans c3, (G 4 (by omega)).trans c4, (G 5 (by omega)).trans c5, (G 6 (by omega)).trans c6, (G 7 (by omega)).trans c7⟩
/-- What a clone of fields leaves. -/
def CloneFPost (n B : Nat) (v : List (ByteArray × List (Trm n))) (w : World) (e : Ending) (w' : World) : Prop := ∃ (a : Option Addr) (cap g : Nat), e = .returned (.slice a v.length cap) ∧ v.length ≤ cap ∧ cap ≤ maxLen ∧ (a = none → cap = 0) ∧ Below w.heap.size w w' ∧
  (0 < v.length → a = some ⟨g, 0, none⟩ ∧ w.heap.size ≤ g ∧ blk w' 87 g ∧ ∀ j (hj : j < v.length), FAt (ValIn w' B n) w' g 0 j v[j])
theorem cloneF_any (n : Nat) (w : World) (B : Nat) (hB : B ≤ w.heap.size) (xa : Option Addr) (xn xc : Nat) (v : List (ByteArray × List (Trm n))) (hv : FsIn w B n xa xn xc v) (hs : v.length ≤ 200) :
    Calls Try.prog 77 #[.slice xa xn xc] w (CloneFPost n B v w) := by
  obtain ⟨h1, h2, h3, h4, h5⟩ := hv
  cases xa with
  | none =>
    have h6 : v = [] := by
      apply Classical.byContradiction
      intro hne
      obtain ⟨_, _, e, _⟩ := h5 hne
      cases e
    subst h6
    obtain rfl : xn = 0 := h1
    exact (cloneF_nil 0 xc w).mono fun e w' ⟨he, hw⟩ => hw ▸ ⟨none, 0, 0, he, Nat.le_refl _, by unfold maxLen; omega, fun _ => rfl, Below.refl _ _, fun h => absurd h (by simp)⟩
  | some a =>
    by_cases h0 : v = []
    · subst h0
      obtain rfl : xn = 0 := h1
      refine (cloneF_own a 0 xc [] w rfl (by omega) (by intro j u hj; simp at hj) (by intro u hu; cases hu)).mono fun e w' ⟨v', he, ho, _, hb⟩ => ?_
      obtain ⟨a', cap, rfl, hm, hn⟩ := ownsRow_zero ho
      exact ⟨a', cap, 0, he, Nat.zero_le _, hm, hn, hb, fun h => absurd h (by simp)⟩
    · obtain ⟨b, off, e, hq, hi⟩ := h5 h0
      obtain rfl : a = ⟨b, off, none⟩ := by injection e
      have hpos : 0 < v.length := List.length_pos_iff.2 h0
      have cells : ∀ j, j < xn * 2 → ∃ u, w.cell? ⟨b, off + j, none⟩ = some u ∧ u.oneCell' = true := by
        intro j hj
        obtain ⟨c0, ta, tl, tc, c1, _⟩ := hi (j / 2) (by omega)
        rcases Nat.mod_two_eq_zero_or_one j with hz | hz
        · refine ⟨_, (congrArg w.cell? (show (⟨b, off + j, none⟩ : Addr) = ⟨b, off + j / 2 * 2, none⟩ from by rw [show j / 2 * 2 = j by omega])).trans c0, rfl⟩
        · refine ⟨_, (congrArg w.cell? (show (⟨b, off + j, none⟩ : Addr) = ⟨b, off + j / 2 * 2 + 1, none⟩ from by rw [show off + j / 2 * 2 + 1 = off + j by omega])).trans c1, rfl⟩
      have someC : ∀ j, j < xn * 2 → (w.cell? ⟨b, off + j, none⟩).isSome := fun j hj => by obtain ⟨u, hu, _⟩ := cells j hj; rw [hu]; rfl
      refine (cloneF_own ⟨b, off, none⟩ xn xc (rd w b off (xn * 2)) w (by simp [rd]) (by omega) (fun j u hj => by rw [Addr.add_lit]; exact rd_at someC j u hj) (fun u hu => ?_)).mono fun e w' ⟨v', he, ho, _, hb⟩ => ?_
      · obtain ⟨j, hj, rfl⟩ := List.mem_map.1 hu
        obtain ⟨u, hu, ho⟩ := cells j (by simpa using hj)
        rw [hu]; exact ho
      · obtain ⟨g, cap, rfl, hg, hk, hl, hm, hat⟩ := ownsRow_at ho (by omega)
        subst h1
        refine ⟨_, cap, g, he, hl, hm, (fun h => by cases h), hb, fun _ => ⟨rfl, hg, hk, fun j hj => ?_⟩⟩
        obtain ⟨c0, ta, tl, tc, c1, hV⟩ := hi j hj
        have G : ∀ r, r < 2 → w'.cell? ⟨g, 0 + j * 2 + r, none⟩ = w.cell? ⟨b, off + j * 2 + r, none⟩ := by
          intro r hr
          obtain ⟨u, hu, _⟩ := cells (j * 2 + r) (by omega)
          have := hat (j * 2 + r) u (at_rd _ u (by omega) hu)
          rw [Nat.zero_add, this, Nat.add_assoc, hu]
        exact ⟨(G 0 (by omega)).trans c0, ta, tl, tc, (G 1 (by omega)).trans c1, ValIn.below hV (hb.mono hB)⟩
end Go.Proofs.Ytigdibglkejciaa.Rank
