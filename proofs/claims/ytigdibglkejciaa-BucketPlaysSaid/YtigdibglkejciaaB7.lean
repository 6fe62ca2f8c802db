/-
  Find of an index; Each's maker; DeleteFunc on a row of numbers.
-/
import Derived.Test.YtigdibglkejciaaB6
namespace Go.Proofs.Ytigdibglkejciaa.Buck
open Go.RowKit Go
set_option linter.unusedSimpArgs false

theorem clone_nil (w : World) : Calls Try.prog 81 #[nilS] w fun e w' => e = .returned nilS ∧ w = w' := by
  refine (Try.slices_Clone_int_nil 0 0 w).mono ?_
  rintro e w' ⟨rfl, rfl⟩
  exact ⟨rfl, rfl⟩
theorem SX.below {b : Nat} {c : Array Value} {W W' : World} (h : SX b c W) (hb : Below W.heap.size W W') : SX b c W' := ⟨fun o => (hb.cell (p := ⟨b, o, none⟩) h.2).trans (h.1 o), Nat.lt_of_lt_of_le h.2 hb.size⟩
def FPost (zs : List Int) (w : World) (e : Ending) (w' : World) : Prop := ∃ v, e = .returned v ∧ RInts w' v zs ∧ Below w.heap.size w w'
theorem row_zero {w : World} {base : Nat} {T : TypeId} {size n : Nat} {V : Value} {xs : List Value} (h : w.ownsRow base T size V n xs) : w.ownsRow 0 T size V n xs := by
  obtain ⟨hx, h | ⟨g, cap, cur, e, hg, h⟩⟩ := h
  · exact ⟨hx, .inl h⟩
  · exact ⟨hx, .inr ⟨g, cap, cur, e, Nat.zero_le _, h⟩⟩
theorem clone_b {base : Nat} (v : Value) (zs : List Int) (w : World) (hl : zs.length ≤ 1000) (h0 : zs = [] → v = nilS) (h : w.ownsRow base 3 1 v zs.length (ints zs)) : Calls Try.prog 81 #[v] w (FPost zs w) := by
  by_cases hne : zs = []
  · rw [h0 hne]
    refine (clone_nil w).mono ?_
    rintro e w' ⟨rfl, rfl⟩
    subst hne
    exact ⟨_, rfl, ⟨none, 0, rfl, by simp, fun h => absurd h (by simp)⟩, Below.refl _ _⟩
  · refine (clone_row v zs w hne hl (row_zero h)).mono ?_
    rintro e w' ⟨g, cap, rfl, hg, ho, hb⟩
    exact ⟨_, rfl, RInts.of_row ho hl, hb⟩
theorem find_nil (s : ByteArray) (w : World) : Calls Try.prog 56 #[.pointer none, .string s] w fun e w' => e = .returned nilS ∧ w = w' := by
  go_enter Try.func56, Try.ntmps56
  go_wp2
  go_ret
  exact ⟨rfl, rfl⟩
set_option maxRecDepth 100000 in
set_option maxHeartbeats 4000000 in
theorem find_any (w : World) (base bx mb : Nat) (slots many : Int) (N : Nat) (bk : Int → List Int) (V : Int → Value) (s : ByteArray) (hs : s.size ≤ maxLen) (hl : (bk (slot s slots)).length ≤ 1000)
    (h : Idx w base bx mb slots many N bk V) (hk0 : 0 ≤ slot s slots) (hk1 : slot s slots ≤ 1024) :
    Calls Try.prog 56 #[.pointer (some ⟨bx, 0, none⟩), .string s] w (FPost (bk (slot s slots)) w) := by
  obtain ⟨k, hk⟩ : ∃ k, slot s slots = k := ⟨_, rfl⟩
  rw [hk] at hl hk0 hk1 ⊢
  have hS : ∀ W, Calls Try.prog 16 #[.string s, .int .i64 slots] W fun e w' => e = .returned (.int .i64 k) ∧ W = w' := fun W => hk ▸ slot_any s slots W hs
  have HS := Lib.hid hS
  have HIdx := Lib.hid h
  have hb0 := h.box
  have hlb := lt_of_block h.box
  have hwf := wf_int (k := k) (by omega) (by omega)
  have hlk := fun W hb => h.map.look_on (w' := W) hwf hb
  clear hS hk h
  obtain ⟨v0, hv0⟩ : ∃ v0, ((if bk k = [] then none else some (V k) : Option Value).getD nilS) = v0 := ⟨_, rfl⟩
  rw [hv0] at hlk
  have hown : Hid (w.ownsRow base 3 1 v0 (bk k).length (ints (bk k))) := by
    show w.ownsRow base 3 1 v0 (bk k).length (ints (bk k))
    rw [← hv0]
    by_cases hne : bk k = []
    · rw [if_pos hne, hne]; exact World.ownsRow_nil _ _ _ _
    · rw [if_neg hne]; exact HIdx.out.rows k hne
  have h0 : Hid (bk k = [] → v0 = nilS) := fun e => by rw [if_pos e] at hv0; exact hv0.symm
  have HLK := Lib.hid hlk
  have HB0 := Lib.hid hb0
  clear hv0 hb0 hlk
  go_enter Try.func56, Try.ntmps56
  go_wp2
  refine wp_region_held_drew (S := SX bx #[.int .i64 slots, .map (some mb), .int .i64 many]) (by kernel_rfl) ?_ (fun hH => ?_)
  · exact SX.drew (SX.of HB0.out)
  refine wpAnyH_take (i := 0) (v := ?_) rfl (by kernel_rfl) (by kernel_rfl) (by kernel_rfl) (fun _ _ _ h => h) (Or.inl ⟨by rfl, ?_⟩) (by assumption) ?_
  rotate_left; focus (intro w hSw; (try dsimp only at hSw); go_simp; try with_reducible rfl)
  (try simp only [List.getElem_toArray, List.getElem_cons_succ, List.getElem_cons_zero, Act.put, List.setIfInBounds_toArray, List.set_cons_zero, List.set_cons_succ])
  refine wpAnyH_take (i := 1) (v := ?_) rfl (by kernel_rfl) (by kernel_rfl) (by kernel_rfl) (fun _ _ _ h => h) (Or.inl ⟨by rfl, ?_⟩) (by assumption) ?_
  rotate_left; focus (intro w hSw; (try dsimp only at hSw); go_simp; try with_reducible rfl)
  (try simp only [List.getElem_toArray, List.getElem_cons_succ, List.getElem_cons_zero, Act.put, List.setIfInBounds_toArray, List.set_cons_zero, List.set_cons_succ])
  refine wpAnyH_take (i := 2) (v := ?_) rfl (by kernel_rfl) (by kernel_rfl) (by kernel_rfl) (fun _ _ _ h => h) (Or.inl ⟨by rfl, ?_⟩) (by assumption) ?_
  rotate_left; focus (intro w hSw; (try dsimp only at hSw); go_simp; try with_reducible rfl)
  (try simp only [List.getElem_toArray, List.getElem_cons_succ, List.getElem_cons_zero, Act.put, List.setIfInBounds_toArray, List.set_cons_zero, List.set_cons_succ])
  refine wpAnyH_take (i := 3) (v := ?_) rfl (by kernel_rfl) (by kernel_rfl) (by kernel_rfl) (fun _ _ _ h => h) (Or.inl ⟨by rfl, ?_⟩) (by assumption) ?_
  rotate_left; focus (intro w hSw; (try dsimp only at hSw); go_simp; try with_reducible rfl)
  (try simp only [List.getElem_toArray, List.getElem_cons_succ, List.getElem_cons_zero, Act.put, List.setIfInBounds_toArray, List.set_cons_zero, List.set_cons_succ])
  refine wpAnyH_take (i := 4) (v := ?_) rfl (by kernel_rfl) (by kernel_rfl) (by kernel_rfl) (fun _ _ _ h => h) (Or.inl ⟨by rfl, ?_⟩) (by assumption) ?_
  rotate_left; focus (intro w hSw; (try dsimp only at hSw); go_simp; try with_reducible rfl)
  (try simp only [List.getElem_toArray, List.getElem_cons_succ, List.getElem_cons_zero, Act.put, List.setIfInBounds_toArray, List.set_cons_zero, List.set_cons_succ])
  refine wpAnyH_take (i := 5) (v := ?_) rfl (by kernel_rfl) (by kernel_rfl) (by kernel_rfl) (fun _ _ _ h => h) (Or.inl ⟨by rfl, ?_⟩) (by assumption) ?_
  rotate_left; focus (intro w hSw; (try dsimp only at hSw); go_simp; try with_reducible rfl)
  (try simp only [List.getElem_toArray, List.getElem_cons_succ, List.getElem_cons_zero, Act.put, List.setIfInBounds_toArray, List.set_cons_zero, List.set_cons_succ])
  refine wpAnyH_take (i := 6) (v := ?_) rfl (by kernel_rfl) (by kernel_rfl) (by kernel_rfl) (fun _ _ _ h => h) (Or.inl ⟨by rfl, ?_⟩) (by assumption) ?_
  rotate_left; focus (intro w hSw; (try dsimp only at hSw); go_simp; try with_reducible rfl)
  (try simp only [List.getElem_toArray, List.getElem_cons_succ, List.getElem_cons_zero, Act.put, List.setIfInBounds_toArray, List.set_cons_zero, List.set_cons_succ])
  refine wpAnyH_take (i := 7) (v := ?_) rfl (by kernel_rfl) (by kernel_rfl) (by kernel_rfl) (fun _ _ _ h => h) (Or.inl ⟨by rfl, ?_⟩) (by assumption) ?_
  rotate_left; focus (intro w hSw; (try dsimp only at hSw); go_simp; try with_reducible rfl)
  (try simp only [List.getElem_toArray, List.getElem_cons_succ, List.getElem_cons_zero, Act.put, List.setIfInBounds_toArray, List.set_cons_zero, List.set_cons_succ])
  refine wpAnyH_take (i := 8) (v := ?_) rfl (by kernel_rfl) (by kernel_rfl) (by kernel_rfl) (fun _ _ _ h => h) (Or.inl ⟨by rfl, ?_⟩) (by assumption) ?_
  rotate_left; focus (intro w hSw; (try dsimp only at hSw); go_simp; try with_reducible rfl)
  (try simp only [List.getElem_toArray, List.getElem_cons_succ, List.getElem_cons_zero, Act.put, List.setIfInBounds_toArray, List.set_cons_zero, List.set_cons_succ])
  refine wpAnyH_ready (rs := [9]) (by kernel_rfl) (by simp) ?_
  refine AllReadyH.cons rfl (fun K hK => ?_) ?_
  · skip
    go_simp
    go_at_call 16
    (with_reducible refine (HS.out _).mono ?_)
    rintro e w1 ⟨rfl, rfl⟩
    go_wp2_with fail
    refine hK.out _ _ ?_ (fun hH2 => ?_)
    · assumption
    clear hK K hH
    have hH := hH2; clear hH2
    (try simp only [List.getElem_toArray, List.getElem_cons_succ, List.getElem_cons_zero, Act.put, List.setIfInBounds_toArray, List.set_cons_zero, List.set_cons_succ])
    refine wpAnyH_ready (rs := [10]) (by kernel_rfl) (by simp) ?_
    refine AllReadyH.cons rfl (fun K hK => ?_) ?_
    · skip
      go_simp
      rw [HLK.out]; rotate_left; · (repeat (first | exact Below.refl _ _ | apply Below.drew | refine Below.alloc ?_ (by simp) _))
      refine hK.out _ _ ?_ (fun hH2 => ?_)
      · assumption
      clear hK K hH
      have hH := hH2; clear hH2
      (try simp only [List.getElem_toArray, List.getElem_cons_succ, List.getElem_cons_zero, Act.put, List.setIfInBounds_toArray, List.set_cons_zero, List.set_cons_succ])
      refine wpAnyH_ready (rs := [11]) (by kernel_rfl) (by simp) ?_
      refine AllReadyH.cons rfl (fun K hK => ?_) ?_
      · skip
        go_simp
        go_at_call 81
        (with_reducible refine (clone_b v0 (bk k) _ hl h0.out (own_below hown.out (by (repeat (first | exact Below.refl _ _ | apply Below.drew | refine Below.alloc ?_ (by simp) _))))).mono ?_)
        rintro e w1 ⟨v1, rfl, hv1, hbl1⟩
        go_wp2_with fail
        refine hK.out _ _ ?_ (fun hH2 => ?_)
        · exact SX.below hH hbl1
        clear hK K hH
        have hH := hH2; clear hH2
        (try simp only [List.getElem_toArray, List.getElem_cons_succ, List.getElem_cons_zero, Act.put, List.setIfInBounds_toArray, List.set_cons_zero, List.set_cons_succ])
        refine wpAnyH_ready (rs := [12]) (by kernel_rfl) (by simp) ?_
        refine AllReadyH.cons rfl (fun K hK => ?_) ?_
        · skip
          go_simp
          refine hK.out _ _ ?_ (fun hH2 => ?_)
          · assumption
          clear hK K hH
          have hH := hH2; clear hH2
          (try simp only [List.getElem_toArray, List.getElem_cons_succ, List.getElem_cons_zero, Act.put, List.setIfInBounds_toArray, List.set_cons_zero, List.set_cons_succ])
          refine wpAnyH_done (by kernel_rfl) ?_ _
          clear hH
          go_wp2
          go_ret
          exact ⟨v1, rfl, hv1, ((Below.refl w.heap.size w).drew).trans hbl1⟩
        exact AllReadyH.nil
      exact AllReadyH.nil
    exact AllReadyH.nil
  exact AllReadyH.nil
end Go.Proofs.Ytigdibglkejciaa.Buck
