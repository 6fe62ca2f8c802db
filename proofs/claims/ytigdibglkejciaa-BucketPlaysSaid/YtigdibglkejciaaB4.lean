/-
  Each: the iterator over the buckets that have some.
-/
import Derived.Test.YtigdibglkejciaaB3
import Derived.Test.YtigdibglkejciaaShelf
namespace Go.Proofs.Ytigdibglkejciaa.Buck
open Go.RowKit Go Go.Shelf
attribute [local go_sem] Oper.semAt_some

/-- What Each reads at k. -/
def Mem (c bx mb M : Nat) (bk : Nat → List Int) (k : Nat) (A : World) : Prop := A.cell? ⟨c, 0, none⟩ = some (.pointer (some ⟨bx, 0, none⟩)) ∧ (∃ many, A.heap[bx]? = some (.cells #[.int .i64 M, .map (some mb), .int .i64 many] 77 (0, 0))) ∧
  (k < M → ∃ v, (Instr.lookup 75 (.map (some mb)) (.int .i64 (k : Int)) true).run Try.prog A = .ok (.tuple #[v, .bool (decide (bk k ≠ []))]) A ∧ (bk k ≠ [] → A.ownsRow 0 3 1 v (bk k).length (ints (bk k))))
/-- What Each tells at k. -/
def Hd (bk : Nat → List Int) (k : Nat) (xs : Array Value) (h : Nat) (A : World) : Prop := ∃ g cap, xs = #[.int .i64 (k : Int), .slice (some ⟨g, 0, none⟩) (bk k).length cap] ∧ bk k ≠ [] ∧ h ≤ g ∧ A.ownsRow 0 3 1 (.slice (some ⟨g, 0, none⟩) (bk k).length cap) (bk k).length (ints (bk k))

theorem cells_of {w : World} {b : Nat} {c : Array Value} {T : TypeId} {f : Nat × Nat} (h : w.heap[b]? = some (.cells c T f)) (o : Nat) : w.cell? ⟨b, o, none⟩ = c[o]? := by
  simp [World.cell?, h]
/-- Clone of a row of numbers. -/
def ClonePost (ids : List Int) (w : World) (e : Ending) (w' : World) : Prop := ∃ g cap, e = .returned (.slice (some ⟨g, 0, none⟩) ids.length cap) ∧ w.heap.size ≤ g ∧ w'.ownsRow 0 3 1 (.slice (some ⟨g, 0, none⟩) ids.length cap) ids.length (ints ids) ∧ Below w.heap.size w w'
theorem clone_row (v : Value) (ids : List Int) (w : World) (hne : ids ≠ []) (hl : ids.length ≤ 1000) (h : w.ownsRow 0 3 1 v ids.length (ints ids)) : Calls Try.prog 81 #[v] w (ClonePost ids w) := by
  have hpos : 0 < ids.length := List.length_pos_iff.2 hne
  have hc : ∀ g, v.ownBlock = some g → _ := fun g hg => h.cells hg
  obtain ⟨hx, ⟨_, h0⟩ | ⟨g, cap, cur, rfl, _, hh, hn, hm, _, _⟩⟩ := h
  · omega
  · refine (Try.slices_Clone_int g 0 ids.length cap ids w (Nat.le_refl _) (by omega) (fun j hj => ?_)).mono fun e w' ⟨v', he, ho, _, hb⟩ => ?_
    · have := hc g rfl j (.int .i64 (ids.getD j 0)) (by simp [ints, List.getD, hj])
      rwa [Addr.add_lit] at this
    · rw [List.take_length] at ho
      obtain ⟨hx', ⟨_, h0⟩ | ⟨g', cap', cur', rfl, hg', hh', hn', hm', hs', ht'⟩⟩ := ho
      · omega
      · exact ⟨g', cap', he, hg', ⟨hx', .inr ⟨g', cap', cur', rfl, Nat.zero_le _, hh', hn', hm', hs', ht'⟩⟩, hb⟩

set_option maxRecDepth 100000 in
set_option maxHeartbeats 2000000 in
theorem each_ok (n : Nat) (hn : 1 ≤ n) (c bx mb M : Nat) (hM : M ≤ 1024) (bk : Nat → List Int) (hbk : ∀ k, (bk k).length ≤ 1000) :
    IterOk Fence.wide n Try.prog 85 #[.pointer (some ⟨c, 0, none⟩)] M (Mem c bx mb M bk) (fun k => bk k = []) (Hd bk) := by
  intro l J Jx W hab hMem hno hY h0
  show CallsIn Fence.wide n Try.prog 85 #[.func (.yield l) #[] #[], .pointer (some ⟨c, 0, none⟩)] W _
  refine callsIn_of_wp Try.func85 rfl trivial ?_ rfl
  simp only [Try.ntmps85, List.size_toArray, List.length_cons, List.length_nil, Nat.reduceAdd, Nat.reduceSub, Array.replicate_succ, Array.replicate_zero, List.push_toArray, List.append_toArray, List.nil_append, List.cons_append]
  obtain ⟨hc, ⟨many, hb⟩, _⟩ := hMem 0 W h0
  have hb' := cells_of hb
  have HM := Lib.hid hMem
  have HN := Lib.hid hno
  have HY := Lib.hid hY
  have HA := Lib.hid hab
  have HB := Lib.hid hbk
  clear hMem hno hY hab hbk hb
  gi_wp2
  gi_loopw [12] (fun i wr => ∃ k : Nat, k ≤ M ∧ i = .int .i64 k ∧ J k wr) (fun i _ => M - (intOf i).toNat)
  case atStart => exact ⟨0, Nat.zero_le _, rfl, h0⟩
  case round =>
    obtain ⟨k, hk, rfl, hJ⟩ := hrel
    clear hc hb'
    by_cases hlt : k < M
    · obtain ⟨hc, ⟨many', hb⟩, hat⟩ := HM.out k wr hJ
      obtain ⟨v, hlook, hrow⟩ := hat hlt
      have hb' := cells_of hb
      have i1 : (k : Int) < (M : Int) := by omega
      clear hb hat
      by_cases hne : bk k = []
      · have hd : decide (bk k ≠ []) = false := by simpa using hne
        rw [hd] at hlook
        clear hrow hd
        have HNE := Lib.hid hne
        clear hne
        gi_wp2
        refine ⟨trivial, ?_⟩
        gi_wp2
        refine ⟨fun _ h => (by cases h), ?_⟩
        gi_wp2
        go_roundw
        case rel => exact ⟨k + 1, by omega, by go_num, HN.out k wr hJ HNE.out⟩
        case measure => simp [intOf]; omega
      · have hd : decide (bk k ≠ []) = true := by simpa using hne
        rw [hd] at hlook
        have hr := Lib.hid (hrow hne)
        have HNE := Lib.hid hne
        clear hrow hd hne
        gi_wp2_with (refine ⟨trivial, ?_⟩; gi_at_call 81; refine (callsIn_wide.2 (clone_row v (bk k) _ HNE.out (HB.out k) hr.out)).mono ?_; rintro e w1 ⟨g, cap, rfl, hg, hrow, hbel⟩; obtain ⟨fn, tmps, assign, body, hy, hR⟩ := HY.out k _ wr w1 hJ hbel hlt ⟨g, cap, rfl, HNE.out, hg, hrow⟩)
        refine hR.mono ?_
        rintro e W3 (⟨rfl, hJ3⟩ | ⟨rfl, hJx3⟩)
        · gi_wp2
          go_roundw
          case rel => exact ⟨k + 1, by omega, by go_num, hJ3⟩
          case measure => simp [intOf]; omega
        · gi_wp2
          refine bodyPost_ret (results_none rfl _ _ _) rfl ?_
          exact ⟨⟨_, rfl⟩, .inr hJx3⟩
    · have hge : (M : Int) ≤ (k : Int) := by omega
      obtain rfl : k = M := by omega
      gi_wp2
      go_end0
      exact ⟨⟨_, rfl⟩, .inl hJ⟩
end Go.Proofs.Ytigdibglkejciaa.Buck
