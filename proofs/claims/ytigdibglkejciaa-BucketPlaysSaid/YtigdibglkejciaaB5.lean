/-
  Lists of numbers and of items: Ints, the reference's Find and Drop.
-/
import Derived.Test.YtigdibglkejciaaB4
import Derived.Deep.RegionHeld3
namespace Go.Proofs.Ytigdibglkejciaa.Buck
open Go.RowKit Go
set_option linter.unusedSimpArgs false

theorem ret_bool {a b : Bool} (h : a = b) : Ending.returned (.bool a) = .returned (.bool b) := by rw [h]
/-- A slice of numbers reads so. -/
def RInts (w : World) (v : Value) (zs : List Int) : Prop := ∃ a cap, v = .slice a zs.length cap ∧ zs.length ≤ 1000 ∧ (0 < zs.length → ∃ g o, a = some ⟨g, o, none⟩ ∧ g < w.heap.size ∧ ∀ i, i < zs.length → w.cell? ⟨g, o + i, none⟩ = some (.int .i64 (zs.getD i 0)))
theorem RInts.of_row {w : World} {base : Nat} {v : Value} {zs : List Int} (h : w.ownsRow base 3 1 v zs.length (ints zs)) (hl : zs.length ≤ 1000) : RInts w v zs := by
  have hc : ∀ g, v.ownBlock = some g → _ := fun g hg => h.cells hg
  obtain ⟨hx, ⟨rfl, h0⟩ | ⟨g, cap, cur, rfl, _, hh, hn, hm, _, _⟩⟩ := h
  · exact ⟨none, 0, by rw [h0], hl, fun h => absurd h (by omega)⟩
  · refine ⟨_, cap, rfl, hl, fun _ => ⟨g, 0, rfl, lt_of_block hh, fun i hi => ?_⟩⟩
    have := hc g rfl i (.int .i64 (zs.getD i 0)) (by simp [ints, List.getD, hi])
    rwa [Addr.add_lit] at this
theorem RInts.below {w w' : World} {v : Value} {zs : List Int} (h : RInts w v zs) (hb : Below w.heap.size w w') : RInts w' v zs := by
  obtain ⟨a, cap, e, hl, h⟩ := h
  refine ⟨a, cap, e, hl, fun hp => ?_⟩
  obtain ⟨g, o, e, hg, hi⟩ := h hp
  exact ⟨g, o, e, Nat.lt_of_lt_of_le hg hb.size, fun i hlt => (hb.cell (p := ⟨g, _, none⟩) hg).trans (hi i hlt)⟩

abbrev SB (w W : World) : Prop := (∀ b o, b < w.heap.size → W.cell? ⟨b, o, none⟩ = w.cell? ⟨b, o, none⟩) ∧ Below w.heap.size w W
theorem SB.of {w W : World} (h : Below w.heap.size w W) : SB w W := ⟨fun b o hb => h.cell (p := ⟨b, o, none⟩) hb, h⟩
theorem SB.below {w W W1 : World} (h : SB w W) (hb : Below W.heap.size W W1) : SB w W1 := SB.of (h.2.trans (hb.mono h.2.size))
theorem SB.drew {w W : World} (h : SB w W) : SB w W.drew := SB.of h.2.drew
theorem SB.refl (w : World) : SB w w := SB.of (Below.refl _ _)

theorem same_len {x y : List Int} (h : x.length = y.length) (k : Nat) (he : ∀ i, i < k → x.getD i 0 = y.getD i 0) (hk : x.length ≤ k) : x = y := by
  apply List.ext_getElem h
  intro i h1 h2
  have := he i (by omega)
  simpa [List.getD, h1, h2] using this
set_option maxHeartbeats 1000000 in
theorem ints_any (v u : Value) (x y : List Int) (w : World) (hv : RInts w v x) (hu : RInts w u y) :
    Calls Try.prog 55 #[v, u] w fun e w' => e = .returned (.bool (decide (x = y))) ∧ Below w.heap.size w w' := by
  obtain ⟨a, ac, rfl, hx, ha⟩ := hv
  obtain ⟨b, bc, rfl, hy, hb⟩ := hu
  by_cases hl : x.length = y.length
  · have h1 : ((x.length : Int) != (y.length : Int)) = false := by simp [hl]
    have HL := Lib.hid hl
    have HA := Lib.hid ha
    have HB := Lib.hid hb
    clear hl ha hb
    go_enter Try.func55, Try.ntmps55
    go_wp2
    go_loopw [5] (fun i wr => ∃ k : Nat, k ≤ x.length ∧ i = .int .i64 k ∧ Below w.heap.size w wr ∧ Hid (∀ i, i < k → x.getD i 0 = y.getD i 0)) (fun i _ => x.length - (intOf i).toNat)
    case atStart => exact ⟨0, Nat.zero_le _, rfl, Below.refl _ _, fun i h => absurd h (by omega)⟩
    case round =>
      obtain ⟨k, hk, rfl, hbel, hsame⟩ := hrel
      have hs := hbel.size
      by_cases hlt : k < x.length
      · obtain ⟨g, o, rfl, hg, hc⟩ := HA.out (by omega)
        obtain ⟨g', o', rfl, hg', hc'⟩ := HB.out (by have := HL.out; omega)
        have c0 : wr.cell? ⟨g, o + k, none⟩ = _ := (hbel.cell (p := ⟨g, _, none⟩) hg).trans (hc k hlt)
        have c1 : wr.cell? ⟨g', o' + k, none⟩ = _ := (hbel.cell (p := ⟨g', _, none⟩) hg').trans (hc' k (by have := HL.out; omega))
        obtain ⟨p, hp⟩ : ∃ p, x.getD k 0 = p := ⟨_, rfl⟩
        obtain ⟨q, hq⟩ : ∃ q, y.getD k 0 = q := ⟨_, rfl⟩
        rw [hp] at c0
        rw [hq] at c1
        have HP := Lib.hid hp
        have HQ := Lib.hid hq
        clear hc hc' hp hq
        have i1 : (0 : Int) ≤ (k : Int) := by omega
        have i2 : (k : Int) < (x.length : Int) := by omega
        have i3 : (k : Int) < (y.length : Int) := by have := HL.out; omega
        have hg1 : g < wr.heap.size := by omega
        have hg2 : g' < wr.heap.size := by omega
        have hS := SB.refl wr
        go_wp2
        go_region_held3 (SB wr) (first | (with_reducible assumption) | (with_reducible exact SB.drew (by assumption))) (fail)
        have hbd : Below w.heap.size w wr.drew := hbel.drew
        cases h0 : ((p : Int) != q)
        · go_wp2
          go_roundw
          case rel =>
            refine ⟨k + 1, by omega, by go_num, hbd, fun i hi => ?_⟩
            by_cases e : i < k
            · exact hsame.out i e
            · obtain rfl : i = k := by omega
              rw [HP.out, HQ.out]; simpa using h0
          case measure => simp [intOf]; omega
        · have hne : Hid (decide (x = y) = false) := by
            show _ = _
            simp only [decide_eq_false_iff_not]
            rintro rfl
            have := HP.out.symm.trans HQ.out
            simp [this] at h0
          go_wp2
          go_ret
          exact ⟨ret_bool hne.out.symm, hbd⟩
      · have hE : Hid (decide (x = y) = true) := by
          show _ = _
          simp only [decide_eq_true_eq]
          exact same_len HL.out k hsame.out (by omega)
        have hge : (x.length : Int) ≤ (k : Int) := by omega
        go_wp2
        go_ret
        exact ⟨ret_bool hE.out.symm, hbel⟩
  · have h1 : ((x.length : Int) != (y.length : Int)) = true := by simp; omega
    have hE : Hid (decide (x = y) = false) := by
      show _ = _
      simp only [decide_eq_false_iff_not]
      rintro rfl
      exact hl rfl
    clear hl ha hb
    go_enter Try.func55, Try.ntmps55
    go_wp2
    go_ret
    exact ⟨ret_bool hE.out.symm, Below.refl _ _⟩

/-- The cells of items. -/
def icells (l : List (Int × Int)) : List Value := l.flatMap fun x => [.int .i64 x.1, .int .i64 x.2]
theorem icells_len : ∀ l : List (Int × Int), (icells l).length = l.length * 2
  | [] => rfl
  | x :: l => by
    have := icells_len l
    simp only [icells, List.flatMap_cons, List.length_append, List.length_cons, List.length_nil] at this ⊢
    omega
theorem icells_at : ∀ (l : List (Int × Int)) (i : Nat) (h : i < l.length), (icells l)[i * 2]? = some (.int .i64 l[i].1) ∧ (icells l)[i * 2 + 1]? = some (.int .i64 l[i].2)
  | x :: l, 0, _ => ⟨rfl, rfl⟩
  | x :: l, i + 1, h => by
    have := icells_at l i (by simpa using h)
    have e1 : (i + 1) * 2 = i * 2 + 1 + 1 := by omega
    rw [e1]
    exact this
theorem icells_snoc (l : List (Int × Int)) (x : Int × Int) : icells (l ++ [x]) = icells l ++ [.int .i64 x.1, .int .i64 x.2] := by simp [icells]
/-- A slice of items reads so. -/
def RItems (w : World) (v : Value) (l : List (Int × Int)) : Prop := ∃ a cap, v = .slice a l.length cap ∧ l.length ≤ 1000 ∧ (0 < l.length → ∃ g, a = some ⟨g, 0, none⟩ ∧ g < w.heap.size ∧ ∀ i (h : i < l.length), w.cell? ⟨g, i * 2, none⟩ = some (.int .i64 l[i].1) ∧ w.cell? ⟨g, i * 2 + 1, none⟩ = some (.int .i64 l[i].2))
theorem RItems.of_row {w : World} {base : Nat} {v : Value} {l : List (Int × Int)} (h : w.ownsRow base 64 2 v l.length (icells l)) (hl : l.length ≤ 1000) : RItems w v l := by
  have hc : ∀ g, v.ownBlock = some g → _ := fun g hg => h.cells hg
  obtain ⟨hx, ⟨rfl, h0⟩ | ⟨g, cap, cur, rfl, _, hh, hn, hm, _, _⟩⟩ := h
  · exact ⟨none, 0, by rw [h0], hl, fun h => absurd h (by omega)⟩
  · refine ⟨_, cap, rfl, hl, fun _ => ⟨g, rfl, lt_of_block hh, fun i hi => ?_⟩⟩
    have h1 := hc g rfl _ _ (icells_at l i hi).1
    have h2 := hc g rfl _ _ (icells_at l i hi).2
    rw [Addr.add_lit, Nat.zero_add] at h1 h2
    exact ⟨h1, h2⟩
theorem RItems.below {w w' : World} {v : Value} {l : List (Int × Int)} (h : RItems w v l) (hb : Below w.heap.size w w') : RItems w' v l := by
  obtain ⟨a, cap, e, hl, h⟩ := h
  refine ⟨a, cap, e, hl, fun hp => ?_⟩
  obtain ⟨g, e, hg, hi⟩ := h hp
  exact ⟨g, e, Nat.lt_of_lt_of_le hg hb.size, fun i hlt => ⟨(hb.cell (p := ⟨g, _, none⟩) hg).trans (hi i hlt).1, (hb.cell (p := ⟨g, _, none⟩) hg).trans (hi i hlt).2⟩⟩
theorem new_cells (w : World) (c : Array Value) (T : TypeId) : (w.alloc (.cells c T)).heap[w.heap.size]? = some (.cells c T (0, 0)) := by
  show (w.heap.push _)[w.heap.size]? = _
  exact Array.getElem?_push_size
theorem bel1 (w : World) (o : Obj) : Below w.heap.size w (w.alloc o) := (Below.refl _ _).alloc (Nat.le_refl _) _
theorem own_below {w w' : World} {base : Nat} {T : TypeId} {size n : Nat} {V : Value} {xs : List Value} (h : w.ownsRow base T size V n xs) (hb : Below w.heap.size w w') : w'.ownsRow base T size V n xs := by
  refine h.kept (grown_below hb) ?_
  by_cases e : V.ownBlock = none
  · exact Or.inl e
  · exact Or.inr e
theorem info3 : (Try.prog.info? 3).map (fun i => (i.zero, i.size, i.bytes)) = some (some (.int .i64 0), 1, 8) := by kernel_rfl
theorem info64 : (Try.prog.info? 64).map (fun i => (i.zero, i.size, i.bytes)) = some (some (.agg #[.int .i64 0, .int .i64 0]), 2, 16) := by kernel_rfl

theorem bucket_snoc (l : List (Int × Int)) (x : Int × Int) (k : Int) : bucket (l ++ [x]) k = bucket l k ++ if x.1 == k then [x.2] else [] := by
  unfold bucket; rw [List.filter_append, List.map_append]
  cases h : (x.1 == k) <;> simp [List.filter_cons, h]
theorem take_snoc' {α : Type} (l : List α) (k : Nat) (h : k < l.length) : l.take (k + 1) = l.take k ++ [l[k]] := List.take_succ_eq_append_getElem h
theorem bucket_len (l : List (Int × Int)) (k : Int) : (bucket l k).length ≤ l.length := by unfold bucket; rw [List.length_map]; exact List.length_filter_le _ _

def FindPost (zs : List Int) (w : World) (e : Ending) (w' : World) : Prop := ∃ v, e = .returned v ∧ w'.ownsRow w.heap.size 3 1 v zs.length (ints zs) ∧ Below w.heap.size w w'
set_option maxHeartbeats 1000000 in
theorem findR_any (v : Value) (l : List (Int × Int)) (k : Int) (w : World) (hv : RItems w v l) : Calls Try.prog 57 #[v, .int .i64 k] w (FindPost (bucket l k) w) := by
  obtain ⟨a, ac, rfl, hx, ha⟩ := hv
  obtain ⟨i0, hi0, z0, z1, z2⟩ := info_parts info3
  have HI := Lib.hid (show Try.prog.info? 3 = some i0 ∧ i0.zero = _ ∧ i0.size = 1 ∧ i0.bytes = 8 from ⟨hi0, z0, z1, z2⟩)
  have HA := Lib.hid ha
  clear ha hi0 z0 z1 z2
  go_enter Try.func57, Try.ntmps57
  go_wp2
  go_loopw [5, 6] (fun o i wr => ∃ (j : Nat) (oa : Option Addr) (oc : Nat), j ≤ l.length ∧ i = .int .i64 j ∧ o = .slice oa (bucket (l.take j) k).length oc ∧ Below w.heap.size w wr ∧ Hid (wr.ownsRow w.heap.size 3 1 (.slice oa (bucket (l.take j) k).length oc) (bucket (l.take j) k).length (ints (bucket (l.take j) k)))) (fun _ i _ => l.length - (intOf i).toNat)
  case atStart => exact ⟨0, none, 0, Nat.zero_le _, rfl, rfl, Below.refl _ _, World.ownsRow_nil _ _ _ _⟩
  case round =>
    obtain ⟨j, oa, oc, hj, rfl, rfl, hbel, hrow⟩ := hrel
    have hs := hbel.size
    by_cases hlt : j < l.length
    · obtain ⟨g, rfl, hg, hc⟩ := HA.out (by omega)
      obtain ⟨hc0, hc1⟩ := hc j hlt
      have c0 : wr.cell? ⟨g, j * 2, none⟩ = _ := (hbel.cell (p := ⟨g, _, none⟩) hg).trans hc0
      have c1 : wr.cell? ⟨g, j * 2 + 1, none⟩ = _ := (hbel.cell (p := ⟨g, _, none⟩) hg).trans hc1
      have hbk := bucket_snoc (l.take j) l[j] k
      rw [← take_snoc' l j hlt] at hbk
      have hbl := bucket_len (l.take j) k
      have htl : (l.take j).length ≤ j := List.length_take_le _ _
      generalize l[j] = x at c0 c1 hbk
      obtain ⟨xs, xi⟩ := x
      simp only at c0 c1 hbk
      generalize bucket (l.take j) k = zs at hrow hbk hbl ⊢
      have HBK := Lib.hid hbk
      clear hc hc0 hc1 hbk
      have i1 : (0 : Int) ≤ (j : Int) := by omega
      have i2 : (j : Int) < (l.length : Int) := by omega
      cases h0 : ((xs : Int) == k)
      · have HZ := Lib.hid (show bucket (l.take (j + 1)) k = zs by rw [HBK.out, h0]; simp)
        clear HBK
        go_wp2
        go_roundw
        case rel => exact ⟨j + 1, oa, oc, by omega, by go_num, by rw [HZ.out], hbel, by rw [HZ.out]; exact hrow⟩
        case measure => simp [intOf]; omega
      · have HZ := Lib.hid (show bucket (l.take (j + 1)) k = zs ++ [xi] by rw [HBK.out, h0]; simp)
        clear HBK
        go_wp2_with (at_builtin; refine wpList_append_lies _ (by rfl) _ _ 68 (by rfl) w.heap.size 3 i0 _ 1 8 Try.underlying68 HI.out.1 HI.out.2.1 HI.out.2.2.1 HI.out.2.2.2 (by rfl) (by decide) (.slice oa zs.length oc) zs.length (ints zs) (by rfl) (own_below hrow.out (bel1 _ _)) ⟨wr.heap.size, 0, none⟩ 1 1 [.int .i64 xi] (by rfl) (by rfl) (World.news_of_block (new_cells wr _ _)) (by intro u hu; simp at hu; subst hu; rfl) (by omega) (by unfold maxLen; omega) (by omega) (by simp; omega) (wr.heap.size + 1) (by simp) ?_)
        intro g' cap' w1 hown hgrow hat hlt1
        have hb1 : Below w.heap.size w w1 := (hbel.alloc hs (.cells #[.int .i64 xi] 3)).grown hgrow (by simp; omega) (fun k' hk' => by have := (hrow.out.lt k' hk').1; omega)
        have HO := Lib.hid hown
        clear hown hgrow hat
        go_wp2
        go_roundw
        case rel =>
          refine ⟨j + 1, some ⟨g', 0, none⟩, cap', by omega, by go_num, by rw [HZ.out]; simp, hb1, Lib.hid ?_⟩
          rw [HZ.out]
          have := HO.out
          simpa [ints] using this
        case measure => simp [intOf]; omega
    · have hge : (l.length : Int) ≤ (j : Int) := by omega
      have hE : Hid (bucket (l.take j) k = bucket l k) := by rw [List.take_of_length_le (by omega)]; rfl
      go_wp2
      go_ret
      refine ⟨_, rfl, ?_, hbel⟩
      rw [← hE.out]
      exact hrow.out

/-- All but those of an id. -/
def keepI (l : List (Int × Int)) (k : Int) : List (Int × Int) := l.filter (fun x => x.2 != k)
theorem keepI_snoc (l : List (Int × Int)) (x : Int × Int) (k : Int) : keepI (l ++ [x]) k = keepI l k ++ if x.2 != k then [x] else [] := by
  unfold keepI; rw [List.filter_append]
  cases h : (x.2 != k) <;> simp [List.filter_cons, h]
theorem keepI_len (l : List (Int × Int)) (k : Int) : (keepI l k).length ≤ l.length := List.length_filter_le _ _
def DropRPost (zs : List (Int × Int)) (w : World) (e : Ending) (w' : World) : Prop := ∃ v, e = .returned v ∧ w'.ownsRow w.heap.size 64 2 v zs.length (icells zs) ∧ Below w.heap.size w w'
set_option maxHeartbeats 1000000 in
theorem dropR_any (v : Value) (l : List (Int × Int)) (k : Int) (w : World) (hv : RItems w v l) : Calls Try.prog 53 #[v, .int .i64 k] w (DropRPost (keepI l k) w) := by
  obtain ⟨a, ac, rfl, hx, ha⟩ := hv
  obtain ⟨i0, hi0, z0, z1, z2⟩ := info_parts info64
  have HI := Lib.hid (show Try.prog.info? 64 = some i0 ∧ i0.zero = _ ∧ i0.size = 2 ∧ i0.bytes = 16 from ⟨hi0, z0, z1, z2⟩)
  have HA := Lib.hid ha
  clear ha hi0 z0 z1 z2
  go_enter Try.func53, Try.ntmps53
  go_wp2
  go_loopw [5, 6] (fun o i wr => ∃ (j : Nat) (oa : Option Addr) (oc : Nat), j ≤ l.length ∧ i = .int .i64 j ∧ o = .slice oa (keepI (l.take j) k).length oc ∧ Below w.heap.size w wr ∧ Hid (wr.ownsRow w.heap.size 64 2 (.slice oa (keepI (l.take j) k).length oc) (keepI (l.take j) k).length (icells (keepI (l.take j) k)))) (fun _ i _ => l.length - (intOf i).toNat)
  case atStart => exact ⟨0, none, 0, Nat.zero_le _, rfl, rfl, Below.refl _ _, World.ownsRow_nil _ _ _ _⟩
  case round =>
    obtain ⟨j, oa, oc, hj, rfl, rfl, hbel, hrow⟩ := hrel
    have hs := hbel.size
    by_cases hlt : j < l.length
    · obtain ⟨g, rfl, hg, hc⟩ := HA.out (by omega)
      obtain ⟨hc0, hc1⟩ := hc j hlt
      have c0 : wr.cell? ⟨g, j * 2, none⟩ = _ := (hbel.cell (p := ⟨g, _, none⟩) hg).trans hc0
      have c1 : wr.cell? ⟨g, j * 2 + 1, none⟩ = _ := (hbel.cell (p := ⟨g, _, none⟩) hg).trans hc1
      have hbk := keepI_snoc (l.take j) l[j] k
      rw [← take_snoc' l j hlt] at hbk
      have hbl := keepI_len (l.take j) k
      have htl : (l.take j).length ≤ j := List.length_take_le _ _
      generalize l[j] = x at c0 c1 hbk
      obtain ⟨xs, xi⟩ := x
      simp only at c0 c1 hbk
      generalize keepI (l.take j) k = zs at hrow hbk hbl ⊢
      have HBK := Lib.hid hbk
      clear hc hc0 hc1 hbk
      have i1 : (0 : Int) ≤ (j : Int) := by omega
      have i2 : (j : Int) < (l.length : Int) := by omega
      cases h0 : ((xi : Int) != k)
      · have HZ := Lib.hid (show keepI (l.take (j + 1)) k = zs by rw [HBK.out, h0]; simp)
        clear HBK
        go_wp2
        go_roundw
        case rel => exact ⟨j + 1, oa, oc, by omega, by go_num, by rw [HZ.out], hbel, by rw [HZ.out]; exact hrow⟩
        case measure => simp [intOf]; omega
      · have HZ := Lib.hid (show keepI (l.take (j + 1)) k = zs ++ [(xs, xi)] by rw [HBK.out, h0]; simp)
        clear HBK
        go_wp2_with (at_builtin; refine wpList_append_lies _ (by rfl) _ _ 59 (by rfl) w.heap.size 64 i0 _ 2 16 Try.underlying59 HI.out.1 HI.out.2.1 HI.out.2.2.1 HI.out.2.2.2 (by rfl) (by decide) (.slice oa zs.length oc) zs.length (icells zs) (by rfl) (own_below hrow.out (bel1 _ _)) ⟨wr.heap.size, 0, none⟩ 1 1 [.int .i64 xs, .int .i64 xi] (by rfl) (by rfl) (World.news_of_block (new_cells wr _ _)) (by intro u hu; simp at hu; rcases hu with rfl | rfl <;> rfl) (by omega) (by unfold maxLen; omega) (by omega) (by simp; omega) (wr.heap.size + 1) (by simp) ?_)
        intro g' cap' w1 hown hgrow hat hlt1
        have hb1 : Below w.heap.size w w1 := (hbel.alloc hs (.cells #[.int .i64 xs, .int .i64 xi] 64)).grown hgrow (by simp; omega) (fun k' hk' => by have := (hrow.out.lt k' hk').1; omega)
        have HO := Lib.hid hown
        clear hown hgrow hat
        go_wp2
        go_roundw
        case rel =>
          refine ⟨j + 1, some ⟨g', 0, none⟩, cap', by omega, by go_num, by rw [HZ.out]; simp, hb1, Lib.hid ?_⟩
          rw [HZ.out]
          have := HO.out
          rw [icells_snoc]
          simpa using this
        case measure => simp [intOf]; omega
    · have hge : (l.length : Int) ≤ (j : Int) := by omega
      have hE : Hid (keepI (l.take j) k = keepI l k) := by rw [List.take_of_length_le (by omega)]; rfl
      go_wp2
      go_ret
      refine ⟨_, rfl, ?_, hbel⟩
      rw [← hE.out]
      exact hrow.out
end Go.Proofs.Ytigdibglkejciaa.Buck
