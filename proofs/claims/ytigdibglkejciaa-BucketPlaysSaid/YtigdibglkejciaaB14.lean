/-
  Buckets of a list of items; an index and the live items side by side.
-/
import Derived.Test.YtigdibglkejciaaB13
import Derived.Test.YtigdibglkejciaaR15
namespace Go.Proofs.Ytigdibglkejciaa.Buck
open Go.RowKit Go
set_option linter.unusedSimpArgs false

theorem bucket_add (l : List (Int × Int)) (k id : Int) : bucket (l ++ [(k, id)]) = updB (bucket l) k (bucket l k ++ [id]) := by
  funext j
  rw [bucket_snoc]
  unfold updB
  by_cases e : j = k
  · subst e; simp
  · rw [if_neg e]
    have : ((k, id).1 == j) = false := by simp; exact fun h => e h.symm
    rw [this]; simp
theorem bucket_cons (x : Int × Int) (l : List (Int × Int)) (k : Int) : bucket (x :: l) k = if x.1 = k then x.2 :: bucket l k else bucket l k := by
  unfold bucket
  by_cases e : x.1 = k <;> simp [List.filter_cons, e]
theorem bucket_keep (l : List (Int × Int)) (id k : Int) : bucket (keepI l id) k = keepZ (bucket l k) id := by
  induction l with
  | nil => rfl
  | cons x l ih =>
    rw [bucket_cons]
    unfold keepI keepZ at *
    rw [List.filter_cons]
    by_cases e : x.2 = id <;> by_cases e' : x.1 = k
    · simp [e, e', List.filter_cons, ih]
    · simp [e, e', ih]
    · simp [e, e', List.filter_cons, bucket_cons, ih]
    · simp [e, e', bucket_cons, ih]
theorem tot_cons (x : Int × Int) (l : List (Int × Int)) : ∀ M : Nat, tot (bucket (x :: l)) M = tot (bucket l) M + if 0 ≤ x.1 ∧ x.1 < (M : Int) then 1 else 0
  | 0 => by
    have h : ¬ (0 ≤ x.1 ∧ x.1 < ((0 : Nat) : Int)) := by omega
    rw [if_neg h]; rfl
  | M + 1 => by
    have ih := tot_cons x l M
    simp only [tot, bucket_cons]
    rw [ih]
    by_cases e : x.1 = (M : Int)
    · have h1 : ¬ (0 ≤ x.1 ∧ x.1 < (M : Int)) := by omega
      have h2 : 0 ≤ x.1 ∧ x.1 < ((M + 1 : Nat) : Int) := by omega
      rw [if_neg h1, if_pos h2, if_pos e, List.length_cons]; omega
    · rw [if_neg e]
      by_cases h : 0 ≤ x.1 ∧ x.1 < (M : Int)
      · have h2 : 0 ≤ x.1 ∧ x.1 < ((M + 1 : Nat) : Int) := by omega
        rw [if_pos h, if_pos h2]; omega
      · have h2 : ¬ (0 ≤ x.1 ∧ x.1 < ((M + 1 : Nat) : Int)) := by omega
        rw [if_neg h, if_neg h2]; omega
theorem tot_nil : ∀ M : Nat, tot (bucket []) M = 0
  | 0 => rfl
  | M + 1 => by simp only [tot]; rw [tot_nil M]; rfl
def InSlots (M : Nat) (l : List (Int × Int)) : Prop := ∀ x ∈ l, 0 ≤ x.1 ∧ x.1 < (M : Int)
theorem tot_all (M : Nat) : ∀ l : List (Int × Int), InSlots M l → tot (bucket l) M = l.length
  | [], _ => tot_nil M
  | x :: l, h => by
    rw [tot_cons, tot_all M l (fun y hy => h y (List.mem_cons_of_mem _ hy)), if_pos (h x (List.mem_cons_self ..)), List.length_cons]
theorem InSlots.keep {M : Nat} {l : List (Int × Int)} (h : InSlots M l) (id : Int) : InSlots M (keepI l id) := fun x hx => h x (List.mem_filter.1 hx).1
theorem InSlots.add {M : Nat} {l : List (Int × Int)} (h : InSlots M l) {k id : Int} (hk : 0 ≤ k ∧ k < (M : Int)) : InSlots M (l ++ [(k, id)]) := fun x hx => by
  rcases List.mem_append.1 hx with h' | h'
  · exact h x h'
  · simp at h'; subst h'; exact hk
theorem gone_tot (bk : Int → List Int) (id : Int) : ∀ M : Nat, gone bk id M = (tot bk M : Int) - (tot (fun j => keepZ (bk j) id) M : Int)
  | 0 => rfl
  | M + 1 => by
    simp only [gone, tot]
    rw [gone_tot bk id M]
    omega
theorem gone_all {M : Nat} {l : List (Int × Int)} (h : InSlots M l) (id : Int) : gone (bucket l) id M = (l.length : Int) - ((keepI l id).length : Int) := by
  have e : (fun j => keepZ (bucket l j) id) = bucket (keepI l id) := by funext j; exact (bucket_keep l id j).symm
  rw [gone_tot, e, tot_all M l h, tot_all M _ (h.keep id)]
theorem bucket_out {M : Nat} {l : List (Int × Int)} (h : InSlots M l) (j : Int) (hj : ¬ (0 ≤ j ∧ j < (M : Int))) : bucket l j = [] := by
  unfold bucket
  rw [List.map_eq_nil_iff, List.filter_eq_nil_iff]
  intro x hx e
  have := h x hx
  simp at e
  omega
/-- An index for li beside the live items ll. -/
structure PJ (w : World) (M : Nat) (li ll : List (Int × Int)) (N : Nat) (lv : Value) (W : World) : Prop where
  slots : InSlots M li
  bel : Below w.heap.size w W
  row : W.ownsRow (w.heap.size + 2) 64 2 lv ll.length (icells ll)
  idx : ∃ V, Idx W (w.heap.size + 2) (w.heap.size + 1) w.heap.size M li.length N (bucket li) V ∧ ∀ b, lv.ownBlock = some b → ¬ foot (w.heap.size + 1) w.heap.size (bucket li) V b
theorem PJ.size {w W : World} {M : Nat} {li ll : List (Int × Int)} {N : Nat} {lv : Value} (h : PJ w M li ll N lv W) : w.heap.size + 2 ≤ W.heap.size := by
  obtain ⟨V, hi, _⟩ := h.idx
  have := lt_of_block hi.box
  omega
theorem PJ.below {w W W' : World} {M : Nat} {li ll : List (Int × Int)} {N : Nat} {lv : Value} (h : PJ w M li ll N lv W) (hb : Below W.heap.size W W') : PJ w M li ll N lv W' := by
  obtain ⟨V, hi, hf⟩ := h.idx
  have := h.size
  exact ⟨h.slots, h.bel.trans (hb.mono (by omega)), own_below h.row hb, V, hi.below hb, hf⟩
theorem PJ.turn {w W W' : World} {M : Nat} {li : List (Int × Int)} {N : Nat} {V : Int → Value} (hi : Idx W (w.heap.size + 2) (w.heap.size + 1) w.heap.size M li.length N (bucket li) V) (hb : Below w.heap.size w W) (ht : Turn (foot (w.heap.size + 1) w.heap.size (bucket li) V) W W') : Below w.heap.size w W' := by
  have hs := hb.size
  refine hb.trans ⟨ht.os, ht.tape, ht.output, ht.size, fun b hb' => ht.block b (by omega) (fun e => ?_)⟩
  rcases e with e | e | ⟨k, hk, e⟩
  · omega
  · omega
  · have := ((hi.rows k hk).lt b e).1; omega
theorem row_turn {S : Nat → Prop} {W W' : World} {base : Nat} {T : TypeId} {size n : Nat} {lv : Value} {xs : List Value} (h : W.ownsRow base T size lv n xs) (ht : Turn S W W') (hf : ∀ b, lv.ownBlock = some b → ¬ S b) : W'.ownsRow base T size lv n xs := by
  obtain ⟨hx, h1 | ⟨g, cap, cur, rfl, hg, hh, h2⟩⟩ := h
  · exact ⟨hx, .inl h1⟩
  · exact ⟨hx, .inr ⟨g, cap, cur, rfl, hg, (ht.block g (lt_of_block hh) (hf g rfl)).trans hh, h2⟩⟩
theorem PJ.addIdx {w W W' : World} {M : Nat} {li ll : List (Int × Int)} {N : Nat} {lv : Value} {V : Int → Value} {k id : Int} {e : Ending} (h : PJ w M li ll N lv W) (hk : 0 ≤ k ∧ k < (M : Int)) (hi : Idx W (w.heap.size + 2) (w.heap.size + 1) w.heap.size M li.length N (bucket li) V) (hf : ∀ b, lv.ownBlock = some b → ¬ foot (w.heap.size + 1) w.heap.size (bucket li) V b)
    (ha : AddPost (w.heap.size + 2) (w.heap.size + 1) w.heap.size M li.length N (bucket li) V k id W e W') : e = .returned (.tuple #[]) ∧ PJ w M (li ++ [(k, id)]) ll (N + 1) lv W' := by
  obtain ⟨he, ht, V', hi', hf'⟩ := ha
  refine ⟨he, h.slots.add hk, PJ.turn hi h.bel ht, row_turn h.row ht hf, V', ?_, fun b hb hfb => ?_⟩
  · rw [bucket_add]
    have : (((li ++ [(k, id)]).length : Nat) : Int) = (li.length : Int) + 1 := by simp
    rw [this]; exact hi'
  · rw [bucket_add] at hfb
    rcases hf' b hfb with h1 | h1
    · exact hf b hb h1
    · have := (h.row.lt b hb).2; omega
theorem PJ.append {w W W1 W' : World} {M : Nat} {li ll : List (Int × Int)} {N : Nat} {lv : Value} {x : Int × Int} {g cap : Nat} (h : PJ w M li ll N lv W) (hb : Below W.heap.size W W1) (hgrow : W1.grownBy W' lv.ownBlock) (hat : lv.ownBlock = some g ∨ W1.heap.size ≤ g)
    (hrow : W'.ownsRow (w.heap.size + 2) 64 2 (.slice (some ⟨g, 0, none⟩) (ll.length + 1) cap) (ll.length + 1) (icells ll ++ [.int .i64 x.1, .int .i64 x.2])) : PJ w M li (ll ++ [x]) N (.slice (some ⟨g, 0, none⟩) (ll.length + 1) cap) W' := by
  have h1 := h.below hb
  obtain ⟨V, hi, hf⟩ := h1.idx
  have hs := h1.size
  refine ⟨h.slots, h1.bel.grown hgrow (by omega) (fun k hk => by have := (h1.row.lt k hk).1; omega), ?_, V, hi.kept hgrow hf, fun b e hfb => ?_⟩
  · have e1 : (ll ++ [x]).length = ll.length + 1 := by simp
    rw [e1, icells_snoc]; exact hrow
  · obtain rfl : g = b := Option.some.inj e
    rcases hat with h2 | h2
    · exact hf g h2 hfb
    · have := foot_lt hi hfb; omega
theorem PJ.dropIdx {w W W' : World} {M : Nat} {li ll : List (Int × Int)} {N : Nat} {lv : Value} {V : Int → Value} {id : Int} {e : Ending} (h : PJ w M li ll N lv W) (hi : Idx W (w.heap.size + 2) (w.heap.size + 1) w.heap.size M li.length N (bucket li) V) (hf : ∀ b, lv.ownBlock = some b → ¬ foot (w.heap.size + 1) w.heap.size (bucket li) V b)
    (ha : DropPost (w.heap.size + 2) (w.heap.size + 1) w.heap.size M li.length N (bucket li) V id W e W') : e = .returned (.int .i64 ((li.length : Int) - ((keepI li id).length : Int))) ∧ PJ w M (keepI li id) ll (N + M) lv W' := by
  obtain ⟨he, ht, V', hi', hf'⟩ := ha
  have e1 : (fun j => keepZ (bucket li j) id) = bucket (keepI li id) := by funext j; exact (bucket_keep li id j).symm
  rw [gone_all h.slots] at he hi'
  rw [e1] at hi' hf'
  refine ⟨he, h.slots.keep id, PJ.turn hi h.bel ht, row_turn h.row ht hf, V', ?_, fun b hb hfb => ?_⟩
  · have : (li.length : Int) - ((li.length : Int) - ((keepI li id).length : Int)) = ((keepI li id).length : Int) := by omega
    rw [this] at hi'; exact hi'
  · rcases hf' b hfb with h1 | h1
    · exact hf b hb h1
    · have := (h.row.lt b hb).2; omega
theorem PJ.newRow {w W W' : World} {M : Nat} {li ll ll' : List (Int × Int)} {N : Nat} {lv lv' : Value} (h : PJ w M li ll N lv W) (hb : Below W.heap.size W W') (hrow : W'.ownsRow W.heap.size 64 2 lv' ll'.length (icells ll')) : PJ w M li ll' N lv' W' := by
  have h1 := h.below hb
  obtain ⟨V, hi, hf⟩ := h.idx
  have hs := h.size
  refine ⟨h.slots, h1.bel, ?_, V, hi.below hb, fun b e hfb => ?_⟩
  · obtain ⟨hx, h2 | ⟨g, cap, cur, rfl, hg, h2⟩⟩ := hrow
    · exact ⟨hx, .inl h2⟩
    · exact ⟨hx, .inr ⟨g, cap, cur, rfl, by omega, h2⟩⟩
  · have := (hrow.lt b e).1
    have := foot_lt hi hfb
    omega
theorem PJ.start {w : World} {M : Nat} : PJ w M [] [] 0 (.slice none 0 0) ((w.alloc (.map #[] 0)).alloc (.cells #[.int .i64 (M : Int), .map (some w.heap.size), .int .i64 0] 77)) := by
  have b1 : Below w.heap.size w ((w.alloc (.map #[] 0)).alloc (.cells #[.int .i64 (M : Int), .map (some w.heap.size), .int .i64 0] 77)) := (bel1 w _).alloc (by simp) _
  have n1 := new_cells (w.alloc (.map #[] 0)) #[.int .i64 (M : Int), .map (some w.heap.size), .int .i64 0] 77
  simp only [World.size_alloc] at n1
  refine ⟨fun x hx => (by cases hx), b1, World.ownsRow_nil _ _ _ _, fun _ => nilS, ⟨n1, ?_, fun k hk => absurd rfl hk, fun k k' _ hk => absurd rfl hk, by omega, by omega, by omega⟩, fun b e => (by cases e)⟩
  exact ((MapAt.made w).kept (grown_below (bel1 _ _)) (by simp)).congr (fun k _ => rfl)
end Go.Proofs.Ytigdibglkejciaa.Buck
