/-
  Len, Add, Find of an index.
-/
import Derived.Test.YtigdibglkejciaaB5
import Derived.Deep.RegionHeld3
namespace Go.Proofs.Ytigdibglkejciaa.Buck
open Go.RowKit Go
set_option linter.unusedSimpArgs false

theorem len_any (w : World) (base bx mb : Nat) (slots many : Int) (N : Nat) (bk : Int → List Int) (V : Int → Value) (h : Idx w base bx mb slots many N bk V) :
    Calls Try.prog 58 #[.pointer (some ⟨bx, 0, none⟩)] w fun e w' => e = .returned (.int .i64 many) ∧ w = w' := by
  have hc := cells_of h.box
  clear h
  go_enter Try.func58, Try.ntmps58
  go_wp2
  go_ret
  exact ⟨rfl, rfl⟩
theorem len_nil (w : World) : Calls Try.prog 58 #[.pointer none] w fun e w' => e = .returned (.int .i64 0) ∧ w = w' := by
  go_enter Try.func58, Try.ntmps58
  go_wp2
  go_ret
  exact ⟨rfl, rfl⟩
theorem add_nil (s : ByteArray) (id : Int) (w : World) : Calls Try.prog 52 #[.pointer none, .string s, .int .i64 id] w fun e w' => e = .returned (.tuple #[]) ∧ w = w' := by
  go_enter Try.func52, Try.ntmps52
  go_wp2
  refine bodyPost_ret (results_none rfl _ _ _) rfl ?_
  exact ⟨rfl, rfl⟩
/-- A bucket with one id more. -/
def updB (bk : Int → List Int) (k : Int) (zs : List Int) : Int → List Int := fun j => if j = k then zs else bk j
def AddPost (base bx mb : Nat) (slots many : Int) (N : Nat) (bk : Int → List Int) (V : Int → Value) (k id : Int) (w : World) (e : Ending) (w' : World) : Prop :=
  e = .returned (.tuple #[]) ∧ Turn (foot bx mb bk V) w w' ∧ ∃ V', Idx w' base bx mb slots (many + 1) (N + 1) (updB bk k (bk k ++ [id])) V' ∧ ∀ b, foot bx mb (updB bk k (bk k ++ [id])) V' b → foot bx mb bk V b ∨ w.heap.size ≤ b
/-- An abbreviation for the index's own block. -/
abbrev SX (b : Nat) (c : Array Value) (W : World) : Prop := (∀ o, W.cell? ⟨b, o, none⟩ = c[o]?) ∧ b < W.heap.size
theorem SX.of {w : World} {b : Nat} {c : Array Value} {T : TypeId} (h : w.heap[b]? = some (.cells c T (0, 0))) : SX b c w := ⟨cells_of h, lt_of_block h⟩
theorem SX.drew {b : Nat} {c : Array Value} {W : World} (h : SX b c W) : SX b c W.drew := h
theorem SX.alloc {b : Nat} {c : Array Value} {W : World} (h : SX b c W) (o : Obj) : SX b c (W.alloc o) := ⟨fun o' => ((bel1 W o).cell (p := ⟨b, o', none⟩) h.2).trans (h.1 o'), by rw [World.size_alloc]; have := h.2; omega⟩
theorem SX.grown {b : Nat} {c : Array Value} {W W' : World} {row : Option Nat} (h : SX b c W) (hg : W.grownBy W' row) (hr : row ≠ some b) : SX b c W' := ⟨fun o => (hg.cell_far ⟨b, o, none⟩ h.2 (Ne.symm hr)).trans (h.1 o), Nat.lt_of_lt_of_le h.2 hg.size⟩
theorem MapAt.look_on {w w' : World} {mb N : Nat} {f : Int → Option Value} (h : MapAt w mb N f) {k : Int} (hk : (Lit.int .i64 k).wf = true) (hb : Below w.heap.size w w') : (Instr.lookup 75 (.map (some mb)) (.int .i64 k) false).run Try.prog w' = .ok ((f k).getD nilS) w' :=
  (h.kept (grown_below hb) (by simp)).look hk
theorem wf_int {k : Int} (h1 : -9223372036854775808 ≤ k) (h2 : k ≤ 9223372036854775807) : (Lit.int .i64 k).wf = true := by
  simp only [Lit.wf, IntKind.min, IntKind.max, IntKind.signed, IntKind.bits, Bool.and_eq_true, decide_eq_true_eq, if_true]; omega
theorem cells_free {w : World} {b : Nat} {c : Array Value} {T : TypeId} (h : w.heap[b]? = some (.cells c T (0, 0))) (o : Nat) : w.frozen? ⟨b, o, none⟩ = false := by
  simp [World.frozen?, h]
theorem gset (w : World) (b i : Nat) (v : Value) : w.grownBy (w.setCell ⟨b, i, none⟩ v) (some b) :=
  ⟨rfl, rfl, rfl, by simp [World.setCell], fun k _ hk => Below.heap_setCell _ _ _ _ (fun e => hk (by simp [e]))⟩
/-- A bucket replaced. -/
theorem Idx.put {w w' : World} {base bx mb : Nat} {slots many many' : Int} {N N' : Nat} {bk : Int → List Int} {V : Int → Value} {k : Int} {zs : List Int} {nv : Value} (h : Idx w base bx mb slots many N bk V)
    (hbox : w'.heap[bx]? = some (.cells #[.int .i64 slots, .map (some mb), .int .i64 many'] 77 (0, 0))) (hmap : MapAt w' mb N' (upd (fun k => if bk k = [] then none else some (V k)) k (if zs = [] then none else some nv)))
    (hrow : zs ≠ [] → w'.ownsRow base 3 1 nv zs.length (ints zs)) (hrows : ∀ j, j ≠ k → bk j ≠ [] → w'.ownsRow base 3 1 (V j) (bk j).length (ints (bk j))) (hap : zs ≠ [] → ∀ j, j ≠ k → bk j ≠ [] → nv.ownBlock ≠ (V j).ownBlock) :
    Idx w' base bx mb slots many' N' (updB bk k zs) (fun j => if j = k then nv else V j) where
  box := hbox
  map := hmap.congr (fun j _ => by unfold upd updB; split <;> rfl)
  rows j hj := by
    unfold updB at hj ⊢
    by_cases e : j = k
    · simp only [e, if_true] at hj ⊢; exact hrow hj
    · simp only [e, if_false] at hj ⊢; exact hrows j e hj
  apart i j hij hi hj := by
    unfold updB at hi hj
    by_cases e : i = k <;> by_cases e' : j = k
    · exact absurd (e.trans e'.symm) hij
    · simp only [e, e', if_true, if_false] at hi hj ⊢; exact hap hi j e' hj
    · simp only [e, e', if_true, if_false] at hi hj ⊢; exact fun h => hap hj i e hi h.symm
    · simp only [e, e', if_false] at hi hj ⊢; exact h.apart i j hij hi hj
  order := h.order
theorem add_fin {w w5 w6 : World} {base bx mb : Nat} {slots many : Int} {N : Nat} {bk : Int → List Int} {V : Int → Value} {k id : Int} {v0 : Value} {g cap : Nat} (h : Idx w base bx mb slots many N bk V) (hbase : base ≤ w.heap.size)
    (hown : w.ownsRow base 3 1 v0 (bk k).length (ints (bk k))) (hv0 : ((if bk k = [] then none else some (V k) : Option Value).getD nilS) = v0)
    (hgrow : ((w.alloc (.cells #[.int .i64 id] 3)).drew).grownBy w5 v0.ownBlock) (hown5 : w5.ownsRow base 3 1 (.slice (some ⟨g, 0, none⟩) ((bk k).length + 1) cap) ((bk k).length + 1) (ints (bk k) ++ [.int .i64 id]))
    (hat : v0.ownBlock = some g ∨ g = w.heap.size + 1) (_hlt5 : g < w5.heap.size)
    (hmap6 : MapAt w6 mb (N + 1) (upd (fun k => if bk k = [] then none else some (V k)) k (some (.slice (some ⟨g, 0, none⟩) ((bk k).length + 1) cap)))) (hg6 : w5.grownBy w6 (some mb)) :
    bx < w6.heap.size ∧ (∀ o, w6.cell? ⟨bx, o, none⟩ = #[.int .i64 slots, .map (some mb), .int .i64 many][o]?) ∧ (∀ o, w6.frozen? ⟨bx, o, none⟩ = false) ∧
    (Turn (foot bx mb bk V) w (w6.setCell ⟨bx, 2, none⟩ (.int .i64 (many + 1))) ∧ ∃ V', Idx (w6.setCell ⟨bx, 2, none⟩ (.int .i64 (many + 1))) base bx mb slots (many + 1) (N + 1) (updB bk k (bk k ++ [id])) V' ∧
      ∀ b, foot bx mb (updB bk k (bk k ++ [id])) V' b → foot bx mb bk V b ∨ w.heap.size ≤ b) := by
  obtain ⟨o1, o2, o3⟩ := h.order
  have hlb := lt_of_block h.box
  have B4 : Below w.heap.size w (w.alloc (.cells #[.int .i64 id] 3)).drew := (bel1 w _).drew
  have hr0 : ∀ b, v0.ownBlock = some b → base ≤ b ∧ b < w.heap.size := fun b e => hown.lt b e
  have hf0 : ∀ b, v0.ownBlock = some b → foot bx mb bk V b := fun b e => by
    by_cases hne : bk k = []
    · rw [if_pos hne] at hv0; subst hv0; cases e
    · rw [if_neg hne] at hv0; exact Or.inr (Or.inr ⟨k, hne, by rw [← e, ← hv0]; rfl⟩)
  have b4 : ∀ b, b < w.heap.size → (w.alloc (.cells #[.int .i64 id] 3)).drew.heap[b]? = w.heap[b]? := fun b hb => B4.block b hb
  have s4 := B4.size
  have x5 : w5.heap[bx]? = some (.cells #[.int .i64 slots, .map (some mb), .int .i64 many] 77 (0, 0)) := (hgrow.block bx (by omega) (fun e => by have := (hr0 _ e.symm).1; omega)).trans ((b4 bx hlb).trans h.box)
  have s5 := hgrow.size
  have x6 : w6.heap[bx]? = some (.cells #[.int .i64 slots, .map (some mb), .int .i64 many] 77 (0, 0)) := (hg6.block bx (by omega) (fun e => o3 (by cases e; rfl))).trans x5
  have s6 := hg6.size
  have G7 := gset w6 bx 2 (.int .i64 (many + 1))
  have hgb : base ≤ g := by
    rcases hat with e | e
    · exact (hr0 g e).1
    · omega
  have hgm : g ≠ mb := by omega
  have hgx : g ≠ bx := by omega
  refine ⟨lt_of_block x6, cells_of x6, cells_free x6, ?_, (fun j => if j = k then .slice (some ⟨g, 0, none⟩) ((bk k).length + 1) cap else V j), ?_, ?_⟩
  · refine ((Turn.of_below B4).trans ?_).trans ((Turn.of_grown hg6 ?_).trans (Turn.of_grown G7 ?_))
    · exact Turn.of_grown hgrow hf0
    · intro x e; cases e; exact Or.inr (Or.inl rfl)
    · intro x e; cases e; exact Or.inl rfl
  · refine h.put (k := k) (nv := .slice (some ⟨g, 0, none⟩) ((bk k).length + 1) cap) (zs := bk k ++ [id]) ?_ ?_ (fun _ => ?_) (fun j hj hne => ?_) (fun _ j hj hne e => ?_)
    · exact heap_setCell_same w6 bx 2 _ 77 _ x6
    · have := hmap6.kept G7 (fun e => o3 (by cases e; rfl))
      simpa using this
    · have e1 : (bk k ++ [id]).length = (bk k).length + 1 := by simp
      have e2 : ints (bk k ++ [id]) = ints (bk k) ++ [.int .i64 id] := by simp [ints]
      rw [e1, e2]
      exact (hown5.kept hg6 (Or.inr (fun e => hgm (by cases e; rfl)))).kept G7 (Or.inr (fun e => hgx (by cases e; rfl)))
    · have hj0 := h.rows j hne
      have hlt := hj0.lt
      have hnv : (V j).ownBlock ≠ some mb := fun e => by have := (hlt mb e).1; omega
      have hnx : (V j).ownBlock ≠ some bx := fun e => by have := (hlt bx e).1; omega
      refine (((own_below hj0 B4).kept hgrow ?_).kept hg6 (Or.inr hnv)).kept G7 (Or.inr hnx)
      by_cases hk : bk k = []
      · rw [if_pos hk] at hv0; subst hv0
        by_cases e : (V j).ownBlock = none
        · exact Or.inl e
        · exact Or.inr e
      · rw [if_neg hk] at hv0; subst hv0
        exact Or.inr (h.apart j k hj hne hk)
    · have e' : (V j).ownBlock = some g := e.symm
      have hlt := (h.rows j hne).lt g e'
      rcases hat with e2 | e2
      · by_cases hk : bk k = []
        · rw [if_pos hk] at hv0; subst hv0; cases e2
        · rw [if_neg hk] at hv0; subst hv0
          exact h.apart k j (Ne.symm hj) hk hne (e2.trans e'.symm)
      · omega
  · rintro b (e | e | ⟨j, hj, e⟩)
    · exact Or.inl (Or.inl e)
    · exact Or.inl (Or.inr (Or.inl e))
    · by_cases ej : j = k
      · simp only [ej, if_true] at e
        obtain rfl : g = b := by cases e; rfl
        rcases hat with e2 | e2
        · exact Or.inl (hf0 _ e2)
        · right; omega
      · simp only [ej, if_false, updB] at e hj
        exact Or.inl (Or.inr (Or.inr ⟨j, hj, e⟩))
set_option maxRecDepth 100000 in
set_option maxHeartbeats 4000000 in
theorem add_any (w : World) (base bx mb : Nat) (slots many : Int) (N : Nat) (bk : Int → List Int) (V : Int → Value) (s : ByteArray) (id : Int) (hs : s.size ≤ maxLen) (hN : N < 1000000) (hl : (bk (slot s slots)).length ≤ 500) (hm0 : 0 ≤ many) (hm1 : many ≤ 1000)
    (h : Idx w base bx mb slots many N bk V) (hbase : base ≤ w.heap.size) (hk0 : 0 ≤ slot s slots) (hk1 : slot s slots ≤ 1024) :
    Calls Try.prog 52 #[.pointer (some ⟨bx, 0, none⟩), .string s, .int .i64 id] w (AddPost base bx mb slots many N bk V (slot s slots) id w) := by
  obtain ⟨k, hk⟩ : ∃ k, slot s slots = k := ⟨_, rfl⟩
  rw [hk] at hl hk0 hk1 ⊢
  have hS : ∀ W, Calls Try.prog 16 #[.string s, .int .i64 slots] W fun e w' => e = .returned (.int .i64 k) ∧ W = w' := fun W => hk ▸ slot_any s slots W hs
  have HS := Lib.hid hS
  have HIdx := Lib.hid h
  have hc := cells_of h.box
  have hb0 := h.box
  have hlb := lt_of_block h.box
  have hwf := wf_int (k := k) (by omega) (by omega)
  have hlk := fun W hb => h.map.look_on (w' := W) hwf hb
  clear hS hk h
  obtain ⟨i0, hi0, z0, z1, z2⟩ := info_parts info3
  have HI := Lib.hid (show Try.prog.info? 3 = some i0 ∧ i0.zero = _ ∧ i0.size = 1 ∧ i0.bytes = 8 from ⟨hi0, z0, z1, z2⟩)
  clear hi0 z0 z1 z2
  obtain ⟨v0, hv0⟩ : ∃ v0, ((if bk k = [] then none else some (V k) : Option Value).getD nilS) = v0 := ⟨_, rfl⟩
  rw [hv0] at hlk
  have hown : Hid (w.ownsRow base 3 1 v0 (bk k).length (ints (bk k))) := by
    show w.ownsRow base 3 1 v0 (bk k).length (ints (bk k))
    rw [← hv0]
    by_cases hne : bk k = []
    · rw [if_pos hne, hne]; exact World.ownsRow_nil _ _ _ _
    · rw [if_neg hne]; exact HIdx.out.rows k hne
  have hrb : Hid (∀ b, b < base → v0.ownBlock ≠ some b) := fun b hb e => by have := (hown.out.lt b e).1; omega
  have HLK := Lib.hid hlk
  have HV0 := Lib.hid hv0
  have HB0 := Lib.hid hb0
  have HWF := Lib.hid hwf
  have HORD := Lib.hid HIdx.out.order
  have HNM : Hid (N < maxLen) := Lib.hid (by unfold maxLen; omega)
  clear hv0 hb0 hwf hlk
  go_enter Try.func52, Try.ntmps52
  go_wp2_with (go_at_call 16; (with_reducible refine (HS.out _).mono ?_); rintro e w1 ⟨rfl, rfl⟩)

  refine wp_region_held_drew (S := SX bx #[.int .i64 slots, .map (some mb), .int .i64 many]) (by kernel_rfl) ?_ (fun hH => ?_)
  · exact SX.drew (SX.of HB0.out)
  refine wpAnyH_take (i := 0) (v := ?_) rfl (by kernel_rfl) (by kernel_rfl) (by kernel_rfl) (fun _ _ _ h => h) (Or.inl ⟨by rfl, ?_⟩) (by assumption) ?_
  rotate_left; focus (intro w hSw; (try dsimp only at hSw); go_simp; try with_reducible rfl)
  (try simp only [List.getElem_toArray, List.getElem_cons_succ, List.getElem_cons_zero, Act.put, List.setIfInBounds_toArray, List.set_cons_zero, List.set_cons_succ])
  refine wpAnyH_take (i := 1) (v := ?_) rfl (by kernel_rfl) (by kernel_rfl) (by kernel_rfl) (fun _ _ _ h => h) (Or.inl ⟨by rfl, ?_⟩) (by assumption) ?_
  rotate_left; focus (intro w hSw; (try dsimp only at hSw); go_simp; try with_reducible rfl)
  (try simp only [List.getElem_toArray, List.getElem_cons_succ, List.getElem_cons_zero, Act.put, List.setIfInBounds_toArray, List.set_cons_zero, List.set_cons_succ])
  refine wpAnyH_take (i := 2) (v := ?_) rfl (by kernel_rfl) (by kernel_rfl) (by kernel_rfl) (fun _ _ _ h => h) (Or.inl ⟨by rfl, ?_⟩) (by assumption) ?_
  rotate_left; focus (intro w hSw; (try dsimp only at hSw); go_simp; try with_reducible rfl)
  (try simp only [List.getElem_toArray, List.getElem_cons_succ, List.getElem_cons_zero, Act.put, List.setIfInBounds_toArray, List.set_cons_zero, List.set_cons_succ])
  refine wpAnyH_take (i := 3) (v := ?_) rfl (by kernel_rfl) (by kernel_rfl) (by kernel_rfl) (fun _ _ _ h => h) (Or.inl ⟨by rfl, ?_⟩) (by assumption) ?_
  rotate_left; focus (intro w hSw; (try dsimp only at hSw); go_simp; try with_reducible rfl)
  (try simp only [List.getElem_toArray, List.getElem_cons_succ, List.getElem_cons_zero, Act.put, List.setIfInBounds_toArray, List.set_cons_zero, List.set_cons_succ])
  refine wpAnyH_take (i := 4) (v := ?_) rfl (by kernel_rfl) (by kernel_rfl) (by kernel_rfl) (fun _ _ _ h => h) (Or.inl ⟨by rfl, ?_⟩) (by assumption) ?_
  rotate_left; focus (intro w hSw; (try dsimp only at hSw); go_simp; try with_reducible rfl)
  (try simp only [List.getElem_toArray, List.getElem_cons_succ, List.getElem_cons_zero, Act.put, List.setIfInBounds_toArray, List.set_cons_zero, List.set_cons_succ])
  refine wpAnyH_take (i := 5) (v := ?_) rfl (by kernel_rfl) (by kernel_rfl) (by kernel_rfl) (fun _ _ _ h => h) (Or.inl ⟨by rfl, ?_⟩) (by assumption) ?_
  rotate_left; focus (intro w hSw; (try dsimp only at hSw); go_simp; try with_reducible rfl)
  (try simp only [List.getElem_toArray, List.getElem_cons_succ, List.getElem_cons_zero, Act.put, List.setIfInBounds_toArray, List.set_cons_zero, List.set_cons_succ])
  refine wpAnyH_take (i := 6) (v := ?_) rfl (by kernel_rfl) (by kernel_rfl) (by kernel_rfl) (fun _ _ _ h => h) (Or.inl ⟨by rfl, ?_⟩) (by assumption) ?_
  rotate_left; focus (intro w hSw; (try dsimp only at hSw); go_simp; try with_reducible rfl)
  (try simp only [List.getElem_toArray, List.getElem_cons_succ, List.getElem_cons_zero, Act.put, List.setIfInBounds_toArray, List.set_cons_zero, List.set_cons_succ])
  refine wpAnyH_take (i := 7) (v := ?_) rfl (by kernel_rfl) (by kernel_rfl) (by kernel_rfl) (fun _ _ _ h => h) (Or.inl ⟨by rfl, ?_⟩) (by assumption) ?_
  rotate_left; focus (intro w hSw; (try dsimp only at hSw); go_simp; try with_reducible rfl)
  (try simp only [List.getElem_toArray, List.getElem_cons_succ, List.getElem_cons_zero, Act.put, List.setIfInBounds_toArray, List.set_cons_zero, List.set_cons_succ])
  refine wpAnyH_take (i := 8) (v := ?_) rfl (by kernel_rfl) (by kernel_rfl) (by kernel_rfl) (fun _ _ _ h => h) (Or.inl ⟨by rfl, ?_⟩) (by assumption) ?_
  rotate_left; focus (intro w hSw; (try dsimp only at hSw); go_simp; try with_reducible rfl)
  (try simp only [List.getElem_toArray, List.getElem_cons_succ, List.getElem_cons_zero, Act.put, List.setIfInBounds_toArray, List.set_cons_zero, List.set_cons_succ])
  refine wpAnyH_take (i := 9) (v := ?_) rfl (by kernel_rfl) (by kernel_rfl) (by kernel_rfl) (fun _ _ _ h => h) (Or.inl ⟨by rfl, ?_⟩) (by assumption) ?_
  rotate_left; focus (intro w hSw; (try dsimp only at hSw); go_simp; try with_reducible rfl)
  (try simp only [List.getElem_toArray, List.getElem_cons_succ, List.getElem_cons_zero, Act.put, List.setIfInBounds_toArray, List.set_cons_zero, List.set_cons_succ])
  refine wpAnyH_take (i := 11) (v := ?_) rfl (by kernel_rfl) (by kernel_rfl) (by kernel_rfl) (fun _ _ _ h => h) (Or.inl ⟨by rfl, ?_⟩) (by assumption) ?_
  rotate_left; focus (intro w hSw; (try dsimp only at hSw); go_simp; try with_reducible rfl)
  (try simp only [List.getElem_toArray, List.getElem_cons_succ, List.getElem_cons_zero, Act.put, List.setIfInBounds_toArray, List.set_cons_zero, List.set_cons_succ])
  refine wpAnyH_ready (rs := [10, 12]) (by kernel_rfl) (by simp) ?_
  refine AllReadyH.cons rfl (fun K hK => ?_) ?_
  · skip
    go_simp
    rw [HLK.out]; rotate_left; · (repeat (first | exact Below.refl _ _ | apply Below.drew | refine Below.alloc ?_ (by simp) _))
    refine hK.out _ _ ?_ (fun hH2 => ?_)
    · assumption
    clear hK K hH
    have hH := hH2; clear hH2
    (try simp only [List.getElem_toArray, List.getElem_cons_succ, List.getElem_cons_zero, Act.put, List.setIfInBounds_toArray, List.set_cons_zero, List.set_cons_succ])
    refine wpAnyH_ready (rs := [12]) (by kernel_rfl) (by simp) ?_
    refine AllReadyH.cons rfl (fun K hK => ?_) ?_
    · skip
      go_simp
      refine hK.out _ _ ?_ (fun hH2 => ?_)
      · exact hH.alloc _
      clear hK K hH
      have hH := hH2; clear hH2
      (try simp only [List.getElem_toArray, List.getElem_cons_succ, List.getElem_cons_zero, Act.put, List.setIfInBounds_toArray, List.set_cons_zero, List.set_cons_succ])
      refine wpAnyH_ready (rs := [13]) (by kernel_rfl) (by simp) ?_
      refine AllReadyH.cons rfl (fun K hK => ?_) ?_
      · skip
        refine step_append_lies _ (by rfl) _ _ 68 (by rfl) base 3 i0 _ 1 8 Try.underlying68 HI.out.1 HI.out.2.1 HI.out.2.2.1 HI.out.2.2.2 (by rfl) (by decide) v0 (bk k).length (ints (bk k)) (by rfl) (own_below hown.out ((bel1 w (.cells #[.int .i64 id] 3)).drew)) ⟨w.heap.size, 0, none⟩ 1 1 [.int .i64 id] (by rfl) (by rfl) (World.news_of_block (new_cells w _ _)) (by intro u hu; simp at hu; subst hu; rfl) (by omega) (by unfold maxLen; omega) (by omega) (by simp; omega) (w.heap.size + 1) (by simp) ?_
        intro g cap w5 hown5 hgrow hat hlt5
        refine hK.out _ _ ?_ (fun hH2 => ?_)
        · exact hH.grown hgrow (hrb.out _ HORD.out.1)
        clear hK K hH
        have hH := hH2; clear hH2
        (try simp only [List.getElem_toArray, List.getElem_cons_succ, List.getElem_cons_zero, Act.put, List.setIfInBounds_toArray, List.set_cons_zero, List.set_cons_succ])
        refine wpAnyH_ready (rs := [14]) (by kernel_rfl) (by simp) ?_
        refine AllReadyH.cons rfl (fun K hK => ?_) ?_
        · skip
          have hmap5 := (HIdx.out.map.kept (row := none) (grown_below (bel1 w (.cells #[.int .i64 id] 3)).drew) (by simp)).kept hgrow (hrb.out _ HORD.out.2.1)
          have hst := hmap5.store HWF.out HNM.out (.slice (some ⟨g, 0, none⟩) ((bk k).length + 1) cap)
          obtain ⟨w6, hst⟩ := hst
          obtain ⟨hrun, hmap6, hg6⟩ := hst
          go_simp
          refine hK.out _ _ ?_ (fun hH2 => ?_)
          · exact hH.grown hg6 (fun e => HORD.out.2.2 (by cases e; rfl))
          clear hK K hH
          have hH := hH2; clear hH2
          (try simp only [List.getElem_toArray, List.getElem_cons_succ, List.getElem_cons_zero, Act.put, List.setIfInBounds_toArray, List.set_cons_zero, List.set_cons_succ])
          refine wpAnyH_done (by kernel_rfl) ?_ _
          clear hH
          obtain ⟨hb6, hA, hF, hfin⟩ := add_fin HIdx.out hbase hown.out (hv0 := HV0.out) hgrow hown5 hat hlt5 hmap6 hg6
          have HFIN := Lib.hid hfin
          clear hfin hmap6 hmap5 hrun hown5 hgrow hat hg6
          go_wp2
          refine bodyPost_ret (results_none rfl _ _ _) rfl ?_
          exact ⟨rfl, HFIN.out⟩
        exact AllReadyH.nil
      exact AllReadyH.nil
    exact AllReadyH.nil
  refine AllReadyH.cons rfl (fun K hK => ?_) ?_
  · skip
    go_simp
    refine hK.out _ _ ?_ (fun hH2 => ?_)
    · exact hH.alloc _
    clear hK K hH
    have hH := hH2; clear hH2
    (try simp only [List.getElem_toArray, List.getElem_cons_succ, List.getElem_cons_zero, Act.put, List.setIfInBounds_toArray, List.set_cons_zero, List.set_cons_succ])
    refine wpAnyH_ready (rs := [10]) (by kernel_rfl) (by simp) ?_
    refine AllReadyH.cons rfl (fun K hK => ?_) ?_
    · skip
      go_simp
      rw [HLK.out]; rotate_left; · (repeat (first | exact Below.refl _ _ | apply Below.drew | refine Below.alloc ?_ (by simp) _))
      refine hK.out _ _ ?_ (fun hH2 => ?_)
      · assumption
      clear hK K hH
      have hH := hH2; clear hH2
      (try simp only [List.getElem_toArray, List.getElem_cons_succ, List.getElem_cons_zero, Act.put, List.setIfInBounds_toArray, List.set_cons_zero, List.set_cons_succ])
      refine wpAnyH_ready (rs := [13]) (by kernel_rfl) (by simp) ?_
      refine AllReadyH.cons rfl (fun K hK => ?_) ?_
      · skip
        refine step_append_lies _ (by rfl) _ _ 68 (by rfl) base 3 i0 _ 1 8 Try.underlying68 HI.out.1 HI.out.2.1 HI.out.2.2.1 HI.out.2.2.2 (by rfl) (by decide) v0 (bk k).length (ints (bk k)) (by rfl) (own_below hown.out ((bel1 w (.cells #[.int .i64 id] 3)).drew)) ⟨w.heap.size, 0, none⟩ 1 1 [.int .i64 id] (by rfl) (by rfl) (World.news_of_block (new_cells w _ _)) (by intro u hu; simp at hu; subst hu; rfl) (by omega) (by unfold maxLen; omega) (by omega) (by simp; omega) (w.heap.size + 1) (by simp) ?_
        intro g cap w5 hown5 hgrow hat hlt5
        refine hK.out _ _ ?_ (fun hH2 => ?_)
        · exact hH.grown hgrow (hrb.out _ HORD.out.1)
        clear hK K hH
        have hH := hH2; clear hH2
        (try simp only [List.getElem_toArray, List.getElem_cons_succ, List.getElem_cons_zero, Act.put, List.setIfInBounds_toArray, List.set_cons_zero, List.set_cons_succ])
        refine wpAnyH_ready (rs := [14]) (by kernel_rfl) (by simp) ?_
        refine AllReadyH.cons rfl (fun K hK => ?_) ?_
        · skip
          have hmap5 := (HIdx.out.map.kept (row := none) (grown_below (bel1 w (.cells #[.int .i64 id] 3)).drew) (by simp)).kept hgrow (hrb.out _ HORD.out.2.1)
          have hst := hmap5.store HWF.out HNM.out (.slice (some ⟨g, 0, none⟩) ((bk k).length + 1) cap)
          obtain ⟨w6, hst⟩ := hst
          obtain ⟨hrun, hmap6, hg6⟩ := hst
          go_simp
          refine hK.out _ _ ?_ (fun hH2 => ?_)
          · exact hH.grown hg6 (fun e => HORD.out.2.2 (by cases e; rfl))
          clear hK K hH
          have hH := hH2; clear hH2
          (try simp only [List.getElem_toArray, List.getElem_cons_succ, List.getElem_cons_zero, Act.put, List.setIfInBounds_toArray, List.set_cons_zero, List.set_cons_succ])
          refine wpAnyH_done (by kernel_rfl) ?_ _
          clear hH
          obtain ⟨hb6, hA, hF, hfin⟩ := add_fin HIdx.out hbase hown.out (hv0 := HV0.out) hgrow hown5 hat hlt5 hmap6 hg6
          have HFIN := Lib.hid hfin
          clear hfin hmap6 hmap5 hrun hown5 hgrow hat hg6
          go_wp2
          refine bodyPost_ret (results_none rfl _ _ _) rfl ?_
          exact ⟨rfl, HFIN.out⟩
        exact AllReadyH.nil
      exact AllReadyH.nil
    exact AllReadyH.nil
  exact AllReadyH.nil
end Go.Proofs.Ytigdibglkejciaa.Buck
