/-
  Drop of an index.
-/
import Derived.Test.YtigdibglkejciaaB10
namespace Go.Proofs.Ytigdibglkejciaa.Buck
open Go.RowKit Go
set_option linter.unusedSimpArgs false
attribute [local go_sem] Oper.semAt_some

def DropPost (base bx mb M : Nat) (many : Int) (N : Nat) (bk : Int → List Int) (V0 : Int → Value) (id : Int) (w0 : World) (e : Ending) (w' : World) : Prop :=
  e = .returned (.int .i64 (gone bk id M)) ∧ Turn (foot bx mb bk V0) w0 w' ∧ ∃ V', Idx w' base bx mb M (many - gone bk id M) (N + M) (fun j => keepZ (bk j) id) V' ∧ ∀ b, foot bx mb (fun j => keepZ (bk j) id) V' b → foot bx mb bk V0 b ∨ w0.heap.size ≤ b
theorem drop_fin {w0 W : World} {base bx mb M : Nat} {many : Int} {N : Nat} {bk : Int → List Int} {V0 V : Int → Value} {id : Int} {D : Nat} (hbase : base ≤ w0.heap.size) (h0 : Idx w0 base bx mb M many N bk V0) (h : DI w0 base bx mb M many N bk V0 id M V W)
    (hout : ∀ j, ¬ (0 ≤ j ∧ j < (M : Int)) → bk j = []) (hD : w0.heap.size + 4 ≤ D) (hd : W.heap[D]? = some (.deferred (some []))) :
    (W.drew.setCell ⟨bx, 2, none⟩ (.int .i64 (many - gone bk id M))).heap[D]? = some (.deferred (some [])) ∧
    DropPost base bx mb M many N bk V0 id w0 (.returned (.int .i64 (gone bk id M))) ((W.drew.setCell ⟨bx, 2, none⟩ (.int .i64 (many - gone bk id M))).putObj D (.deferred none)) := by
  obtain ⟨o1, o2, o3⟩ := h0.order
  have hb : bkD bk id M = fun j => keepZ (bk j) id := by
    funext j
    unfold bkD
    by_cases hj : 0 ≤ j ∧ j < (M : Int)
    · rw [if_pos hj]
    · rw [if_neg hj, hout j hj, keepZ_nil]
  have hidx := h.idx
  have hfar := h.far
  rw [hb] at hidx hfar
  have hsz := h.turn.size
  have hl3 := lt_of_block h.x3
  have hDl := lt_of_block hd
  have gd : W.grownBy W.drew none := grown_below (Below.refl _ _).drew
  have G1 := gset W.drew bx 2 (.int .i64 (many - gone bk id M))
  have hd1 : (W.drew.setCell ⟨bx, 2, none⟩ (.int .i64 (many - gone bk id M))).heap[D]? = some (.deferred (some [])) :=
    (G1.block D hDl (fun e => by have : D = bx := Option.some.inj e; omega)).trans hd
  have G2 := grownBy_putObj' (W.drew.setCell ⟨bx, 2, none⟩ (.int .i64 (many - gone bk id M))) D (.deferred none)
  have hfD : ∀ b, foot bx mb (fun j => keepZ (bk j) id) V b → b ≠ D := fun b hf e => by
    subst e
    rcases foot_cells hidx hf with h4 | ⟨cur, T, h4⟩
    · omega
    · rw [h4] at hd; cases hd
  refine ⟨hd1, rfl, ?_, V, ?_, fun b hf => ?_⟩
  · refine ⟨h.turn.os, h.turn.tape, h.turn.output, Nat.le_trans hsz (Nat.le_trans gd.size (Nat.le_trans G1.size G2.size)), fun b hb hn => ?_⟩
    exact (G2.block b (by have := G1.size; have := gd.size; omega) (fun e => by have : b = D := Option.some.inj e; omega)).trans ((G1.block b (by have := gd.size; omega) (fun e => hn (Or.inl (Option.some.inj e)))).trans (h.turn.block b hb hn))
  · refine Idx.kept (row := some D) ?_ G2 (fun b e hf => hfD b hf (by cases e; rfl))
    have hi := hidx.kept gd (by intro b e; cases e)
    exact {
      box := heap_setCell_same W.drew bx 2 _ 77 _ hi.box
      map := hi.map.kept G1 (fun e => o3 (by cases e; rfl))
      rows := fun k hk => (hi.rows k hk).kept G1 (Or.inr (fun e => by have := ((hi.rows k hk).lt bx e).1; omega))
      apart := hi.apart
      order := hi.order }
  · rcases hfar b hf with e | e
    · exact Or.inl e
    · exact Or.inr (by omega)
theorem gdrew {A B : World} {row : Option Nat} (h : A.grownBy B row) : A.grownBy B.drew row := ⟨h.os, h.tape, h.output, h.size, h.block⟩
theorem wrap_sum (G a b : Int) (h : 0 ≤ G ∧ G ≤ 2000000) (ha : a ≤ 1000) (hb : 0 ≤ b ∧ b ≤ a) : IntKind.i64.wrap (G + IntKind.i64.wrap (a - b)) = G + (a - b) := by
  rw [IntWalk.i64_in (a - b) (by omega), IntWalk.i64_in _ (by omega)]
theorem wrap_less (m G : Int) (h : 0 ≤ G ∧ G ≤ 2000000) (hm : 0 ≤ m ∧ m ≤ 1000) : IntKind.i64.wrap (m - G) = m - G := by
  exact IntWalk.i64_in _ (by omega)
theorem SX.set {b g o : Nat} {c : Array Value} {W : World} {u : Value} (h : SX b c W) (hne : g ≠ b) : SX b c (W.setCell ⟨g, o, none⟩ u) := h.grown (gset W g o u) (fun e => hne (Option.some.inj e))
def dAct (n0 bx : Nat) (id : Int) (x y : Value) : Act := { tmps := #[.pointer (some ⟨bx, 0, none⟩), .int .i64 id, .pointer (some ⟨n0, 0, none⟩), .pointer (some ⟨n0 + 1, 0, none⟩), .int .i64 0, .pointer (some ⟨n0 + 1 + 1, 0, none⟩), x, y, undef, .pointer (some ⟨bx, 0, none⟩), .func (.func 85) #[] #[.pointer (some ⟨n0 + 1 + 1 + 1, 0, none⟩)], x, y, undef, undef, undef, undef, undef, undef, undef, undef, undef, undef, undef, undef, undef, undef, undef, undef, undef, undef, undef, undef, undef, undef, undef, undef, undef, undef, undef, undef, undef, undef, undef, undef, undef, undef, undef, undef, undef, undef, undef, undef], defers := [] }
set_option maxRecDepth 100000 in
set_option maxHeartbeats 8000000 in
theorem drop_any (w : World) (base bx mb M : Nat) (many : Int) (N : Nat) (bk : Int → List Int) (V0 : Int → Value) (id : Int) (hbase : base ≤ w.heap.size) (hM : M ≤ 1024) (hN : N < 1000000) (hbk : ∀ j, (bk j).length ≤ 500) (hout : ∀ j, ¬ (0 ≤ j ∧ j < (M : Int)) → bk j = []) (hmany : 0 ≤ many ∧ many ≤ 1000)
    (h : Idx w base bx mb M many N bk V0) :
    Calls Try.prog 54 #[.pointer (some ⟨bx, 0, none⟩), .int .i64 id] w (DropPost base bx mb M many N bk V0 id w) := by
  have HI := Lib.hid h
  have hb0 := h.box
  have hlb := lt_of_block hb0
  obtain ⟨o1, o2, o3⟩ := h.order
  have hbk' : ∀ j, (bk j).length ≤ 1000 := fun j => by have := hbk j; omega
  have HG := Lib.hid (gone_bounds bk id hbk')
  have HBK := Lib.hid hbk
  have HBK' := Lib.hid hbk'
  have HOUT := Lib.hid hout
  clear h hbk hbk' hout
  refine (callsIn_wide (n := 4)).1 ?_
  refine callsIn_of_wp_marks Try.func54 rfl trivial ?_ rfl
  simp only [Try.ntmps54, List.size_toArray, List.length_cons, List.length_nil, Nat.reduceAdd, Nat.reduceSub, Array.replicate_succ, Array.replicate_zero, List.push_toArray, List.append_toArray, List.nil_append, List.cons_append]
  gi_wp2_with (refine ⟨trivial, ?_⟩; gi_at_call 78; refine (callsIn_wide.2 (each_maker _ _)).mono ?_; rintro e w1 ⟨rfl, rfl⟩)
  have hx : ∃ V, DI w base bx mb M many N bk V0 id 0 V ((((w.alloc (.cells #[.pointer (some ⟨bx, 0, none⟩)] 23)).alloc (.cells #[.int .i64 id] 3)).alloc (.cells #[.int .i64 0] 3)).alloc (.cells #[.pointer (some ⟨bx, 0, none⟩)] 23)) := ⟨V0, DI.start HI.out hbase⟩
  have hsz : ((((w.alloc (.cells #[.pointer (some ⟨bx, 0, none⟩)] 23)).alloc (.cells #[.int .i64 id] 3)).alloc (.cells #[.int .i64 0] 3)).alloc (.cells #[.pointer (some ⟨bx, 0, none⟩)] 23)).heap.size = w.heap.size + 4 := by simp
  generalize ((((w.alloc (.cells #[.pointer (some ⟨bx, 0, none⟩)] 23)).alloc (.cells #[.int .i64 id] 3)).alloc (.cells #[.int .i64 0] 3)).alloc (.cells #[.pointer (some ⟨bx, 0, none⟩)] 23)) = w4 at hx hsz ⊢
  refine range_law rfl (by omega) (gf := 85) (lb := #[.pointer (some ⟨w.heap.size + 3, 0, none⟩)]) rfl trivial (enters_of Try.func85 (by kernel_rfl) rfl) (M := M)
    (each_ok 3 (by omega) (w.heap.size + 3) bx mb M hM (fun k => bk (k : Int)) (fun k => HBK'.out _)) (by rintro k xs h A ⟨g, cap, rfl, _⟩; rfl)
    (fun k A => ∃ V, DI w base bx mb M many N bk V0 id k V A) (fun _ _ => False) ?own (fun _ _ _ _ hs _ _ => hs) (fun k A ⟨V, h⟩ => h.mem hM) (fun k A ⟨V, h⟩ hn => ⟨V, h.skip hn⟩) ?hd hx
    (fun xs => dAct w.heap.size bx id (xs.getD 0 undef) (xs.getD 1 undef)) ?assign ?body ?done ?stop
  case own =>
    rintro k A W row ⟨V, h⟩ hg hr
    exact ⟨V, h.kept hbase hg (fun r e => by rw [← hsz]; exact hr r e)⟩
  case hd =>
    rintro k xs hh A W row ⟨g, cap, rfl, hne, hhg, hrow⟩ hg hr
    refine ⟨g, cap, rfl, hne, hhg, hrow.kept hg ?_⟩
    right
    intro e
    obtain ⟨cur, hc⟩ := row_cells hrow rfl
    obtain ⟨_, o, ho, hn⟩ := hr g e.symm
    rw [hc] at ho; cases ho; cases hn
  case assign =>
    rintro l k xs hh W K ⟨g, cap, rfl, -⟩ hK
    clear hx HI HG HBK HBK' HOUT
    gi_wp2
    exact hK
  case body =>
    rintro l k xs A W ⟨V, hA⟩ ⟨rr, hr⟩ hg hlw hk ⟨g, cap, rfl, hne, hAg, hrow⟩
    have hW : DI w base bx mb M many N bk V0 id k V W := hA.kept hbase hg (fun r e => by cases e; exact ⟨by omega, _, hr, rfl⟩)
    have hs4 : w4.heap.size = w.heap.size + 4 := hsz
    replace hrow : W.ownsRow 0 3 1 (.slice (some ⟨g, 0, none⟩) (bk k).length cap) (bk k).length (ints (bk k)) := hrow
    replace hne : bk k ≠ [] := hne
    show Code.wpIn _ _ _ _ _ (dAct w.heap.size bx id (.int .i64 k) (.slice (some ⟨g, 0, none⟩) (bk k).length cap)) W
    unfold dAct
    have hA3 := lt_of_block hA.x3
    have hgne : ∀ b, b < w.heap.size + 4 → b ≠ g := fun b hb => by omega
    have HDEL := Lib.hid (del_row 0 g cap (w.heap.size + 1) (bk k) id W hrow (HBK'.out _) (lt_of_block hW.x1) (hgne _ (by omega)) (cells_of hW.x1 0))
    have HA := Lib.hid hA
    have HW := Lib.hid hW
    have HRC2 : Hid (∃ cur T, W.heap[g]? = some (.cells cur T (0, 0))) := by obtain ⟨cur, h⟩ := row_cells hrow rfl; exact ⟨cur, _, h⟩
    have HNM : Hid (N + k < maxLen) := Lib.hid (by unfold maxLen; omega)
    have hkl := keepZ_len (bk k) id
    have hbl := HBK.out (k : Int)
    obtain ⟨G, hGe⟩ : ∃ G, gone bk id k = G := ⟨_, rfl⟩
    have hGb := HG.out k
    rw [hGe] at hGb
    have HGE := Lib.hid hGe
    have HNE := Lib.hid hne
    have HGN := Lib.hid hgne
    have hWl := hW.x3
    have HX := Lib.hid (show W.heap[w.heap.size]? = _ ∧ W.heap[w.heap.size + 2]? = _ ∧ W.heap[bx]? = _ from ⟨hW.x0, hW.x2, hW.idx.box⟩)
    clear hx hsz hr hg hA hW hrow hne hgne hGe hb0
    gi_wp2_with (refine ⟨trivial, ?_⟩; gi_at_call 79; refine (CallsIn.inRound l (callsIn_wide.2 HDEL.out)).mono ?_; rintro e W1 ⟨rfl, hrow1, hg1⟩)
    have y0 := (hg1.block w.heap.size (lt_of_block HX.out.1) (fun e => HGN.out _ (by omega) (Option.some.inj e))).trans HX.out.1
    have y2 := (hg1.block (w.heap.size + 2) (lt_of_block HX.out.2.1) (fun e => HGN.out _ (by omega) (Option.some.inj e))).trans HX.out.2.1
    have yb := (hg1.block bx (lt_of_block HX.out.2.2) (fun e => HGN.out _ (by omega) (Option.some.inj e))).trans HX.out.2.2
    rw [HGE.out] at y2
    have hm1 := HW.out.idx.map.kept hg1 (fun e => HGN.out mb (by omega) (Option.some.inj e).symm)
    obtain ⟨gk, ck, hVk⟩ : ∃ gk ck, V k = .slice (some ⟨gk, 0, none⟩) (bk k).length ck := by
      have := HW.out.idx.rows k (by rw [bkD_at]; exact HNE.out)
      rw [bkD_at] at this
      obtain ⟨_, ⟨_, h⟩ | ⟨g, c, _, e, _⟩⟩ := this
      · exact absurd (List.length_eq_zero_iff.1 h) HNE.out
      · exact ⟨g, c, e⟩
    have hlk := fun W' hb => hm1.look_on (k := (k : Int)) (w' := W') (wf_int (by omega) (by omega)) hb
    rw [bkD_at, if_neg HNE.out, hVk] at hlk
    have HLK : Hid (∀ W', Below W1.heap.size W1 W' → (Instr.lookup 75 (.map (some mb)) (.int .i64 (k : Int)) false).run Try.prog W' = .ok (.slice (some ⟨gk, 0, none⟩) (bk k).length ck) W') := Lib.hid hlk
    have HM1 := Lib.hid hm1
    have HG1 := Lib.hid hg1
    have HROW1 := Lib.hid hrow1
    have c2 : W1.cell? ⟨w.heap.size + 1 + 1, 0, none⟩ = some (.int .i64 G) := cells_of y2 0
    have f2 : W1.frozen? ⟨w.heap.size + 1 + 1, 0, none⟩ = false := cells_free y2 0
    have HY0 := Lib.hid y0
    have HY2 := Lib.hid y2
    have HYB := Lib.hid yb
    have hY0l := lt_of_block y2
    have hYbl := lt_of_block yb
    clear hm1 hlk hVk hrow1 hg1 y0 y2 yb
    refine wpIn_region_held_round (S := fun W => SX w.heap.size #[.pointer (some ⟨bx, 0, none⟩)] W ∧ SX bx #[.int .i64 (M : Int), .map (some mb), .int .i64 many] W) (by kernel_rfl) (by kernel_rfl) ?_ (fun hH => ?_)
    · exact ⟨SX.drew (SX.of HY0.out), SX.drew (SX.of HYB.out)⟩
    refine wpAnyH_take (i := 1) (v := ?_) rfl (by kernel_rfl) (by kernel_rfl) (by kernel_rfl) (fun _ _ _ h => h) (Or.inl ⟨by rfl, ?_⟩) (by assumption) ?_
    rotate_left; focus (intro w hSw; (try dsimp only at hSw); go_simp; try with_reducible rfl)
    (try simp only [List.getElem_toArray, List.getElem_cons_succ, List.getElem_cons_zero, Act.put, List.setIfInBounds_toArray, List.set_cons_zero, List.set_cons_succ])
    refine wpAnyH_take (i := 2) (v := ?_) rfl (by kernel_rfl) (by kernel_rfl) (by kernel_rfl) (fun _ _ _ h => h) (Or.inl ⟨by rfl, ?_⟩) (by assumption) ?_
    rotate_left; focus (intro w hSw; (try dsimp only at hSw); go_simp; try with_reducible rfl)
    (try simp only [List.getElem_toArray, List.getElem_cons_succ, List.getElem_cons_zero, Act.put, List.setIfInBounds_toArray, List.set_cons_zero, List.set_cons_succ])
    refine wpAnyH_take (i := 3) (v := ?_) rfl (by kernel_rfl) (by kernel_rfl) (by kernel_rfl) (fun _ _ _ h => h) (Or.inl ⟨by rfl, ?_⟩) (by assumption) ?_
    rotate_left; focus (intro w hSw; (try dsimp only at hSw); go_simp; try with_reducible rfl)
    (try simp only [List.getElem_toArray, List.getElem_cons_succ, List.getElem_cons_zero, Act.put, List.setIfInBounds_toArray, List.set_cons_zero, List.set_cons_succ])
    refine wpAnyH_take (i := 4) (v := ?_) rfl (by kernel_rfl) (by kernel_rfl) (by kernel_rfl) (fun _ _ _ h => h) (Or.inl ⟨by rfl, ?_⟩) (by assumption) ?_
    rotate_left; focus (intro w hSw; (try dsimp only at hSw); go_simp; try with_reducible rfl)
    (try simp only [List.getElem_toArray, List.getElem_cons_succ, List.getElem_cons_zero, Act.put, List.setIfInBounds_toArray, List.set_cons_zero, List.set_cons_succ])
    refine wpAnyH_take (i := 5) (v := ?_) rfl (by kernel_rfl) (by kernel_rfl) (by kernel_rfl) (fun _ _ _ h => h) (Or.inl ⟨by rfl, ?_⟩) (by assumption) ?_
    rotate_left; focus (intro w hSw; (try dsimp only at hSw); go_simp; try with_reducible rfl)
    (try simp only [List.getElem_toArray, List.getElem_cons_succ, List.getElem_cons_zero, Act.put, List.setIfInBounds_toArray, List.set_cons_zero, List.set_cons_succ])
    refine wpAnyH_take (i := 8) (v := ?_) rfl (by kernel_rfl) (by kernel_rfl) (by kernel_rfl) (fun _ _ _ h => h) (Or.inl ⟨by rfl, ?_⟩) (by assumption) ?_
    rotate_left; focus (intro w hSw; (try dsimp only at hSw); go_simp; try with_reducible rfl)
    (try simp only [List.getElem_toArray, List.getElem_cons_succ, List.getElem_cons_zero, Act.put, List.setIfInBounds_toArray, List.set_cons_zero, List.set_cons_succ])
    refine wpAnyH_take (i := 9) (v := ?_) rfl (by kernel_rfl) (by kernel_rfl) (by kernel_rfl) (fun _ _ _ h => h) (Or.inl ⟨by rfl, ?_⟩) (by assumption) ?_
    rotate_left; focus (intro w hSw; (try dsimp only at hSw); go_simp; try with_reducible rfl)
    (try simp only [List.getElem_toArray, List.getElem_cons_succ, List.getElem_cons_zero, Act.put, List.setIfInBounds_toArray, List.set_cons_zero, List.set_cons_succ])
    refine wpAnyH_ready (rs := [0, 6]) (by kernel_rfl) (by simp) ?_
    refine AllReadyH.cons rfl (fun K hK => ?_) ?_
    · skip
      go_simp
      refine hK.out _ _ ?_ (fun hH2 => ?_)
      · assumption
      clear hK K hH
      have hH := hH2; clear hH2
      (try simp only [List.getElem_toArray, List.getElem_cons_succ, List.getElem_cons_zero, Act.put, List.setIfInBounds_toArray, List.set_cons_zero, List.set_cons_succ])
      refine wpAnyH_ready (rs := [6]) (by kernel_rfl) (by simp) ?_
      refine AllReadyH.cons rfl (fun K hK => ?_) ?_
      · skip
        go_simp
        rw [HLK.out]; rotate_left; · (repeat (first | exact Below.refl _ _ | apply Below.drew | refine Below.alloc ?_ (by simp) _))
        refine hK.out _ _ ?_ (fun hH2 => ?_)
        · assumption
        clear hK K hH
        have hH := hH2; clear hH2
        (try simp only [List.getElem_toArray, List.getElem_cons_succ, List.getElem_cons_zero, Act.put, List.setIfInBounds_toArray, List.set_cons_zero, List.set_cons_succ])
        refine wpAnyH_take (i := 7) (v := ?_) rfl (by kernel_rfl) (by kernel_rfl) (by kernel_rfl) (fun _ _ _ h => h) (Or.inl ⟨by rfl, ?_⟩) (by assumption) ?_
        rotate_left; focus (intro w hSw; (try dsimp only at hSw); go_simp; try with_reducible rfl)
        (try simp only [List.getElem_toArray, List.getElem_cons_succ, List.getElem_cons_zero, Act.put, List.setIfInBounds_toArray, List.set_cons_zero, List.set_cons_succ])
        refine wpAnyH_take (i := 10) (v := ?_) rfl (by kernel_rfl) (by kernel_rfl) (by kernel_rfl) (fun _ _ _ h => h) (Or.inl ⟨by rfl, ?_⟩) (by assumption) ?_
        rotate_left; focus (intro w hSw; (try dsimp only at hSw); go_simp; try with_reducible rfl)
        (try simp only [List.getElem_toArray, List.getElem_cons_succ, List.getElem_cons_zero, Act.put, List.setIfInBounds_toArray, List.set_cons_zero, List.set_cons_succ])
        refine wpAnyH_take (i := 11) (v := ?_) rfl (by kernel_rfl) (by kernel_rfl) (by kernel_rfl) (fun _ _ _ h => h) (Or.inl ⟨by rfl, ?_⟩) (by assumption) ?_
        rotate_left; focus (intro w hSw; (try dsimp only at hSw); go_simp; try with_reducible rfl)
        (try simp only [List.getElem_toArray, List.getElem_cons_succ, List.getElem_cons_zero, Act.put, List.setIfInBounds_toArray, List.set_cons_zero, List.set_cons_succ])
        refine wpAnyH_ready (rs := [12]) (by kernel_rfl) (by simp) ?_
        refine AllReadyH.cons rfl (fun K hK => ?_) ?_
        · skip
          go_simp
          refine hK.out _ _ ?_ (fun hH2 => ?_)
          · exact ⟨SX.set hH.1 (by omega), SX.set hH.2 (by omega)⟩
          clear hK K hH
          have hH := hH2; clear hH2
          (try simp only [List.getElem_toArray, List.getElem_cons_succ, List.getElem_cons_zero, Act.put, List.setIfInBounds_toArray, List.set_cons_zero, List.set_cons_succ])
          refine wpAnyH_done (by kernel_rfl) ?_ _
          clear hH
          refine calmQ_end ?_
          rw [wrap_sum G _ _ (by omega) (by omega) (by omega)]
          have g2 : W1.grownBy (W1.setCell ⟨w.heap.size + 1 + 1, 0, none⟩ (.int .i64 (G + (((bk k).length : Int) - ((keepZ (bk k) id).length : Int))))).drew (some (w.heap.size + 2)) := gdrew (gset W1 (w.heap.size + 2) 0 _)
          have x2 : (W1.setCell ⟨w.heap.size + 1 + 1, 0, none⟩ (.int .i64 (G + (((bk k).length : Int) - ((keepZ (bk k) id).length : Int))))).drew.heap[w.heap.size + 2]? = some (.cells #[.int .i64 (gone bk id (k + 1))] 3 (0, 0)) := by
            have := heap_setCell_same W1 (w.heap.size + 2) 0 _ _ (.int .i64 (G + (((bk k).length : Int) - ((keepZ (bk k) id).length : Int)))) HY2.out
            rw [← HGE.out] at this ⊢
            exact this
          generalize (W1.setCell ⟨w.heap.size + 1 + 1, 0, none⟩ (.int .i64 (G + (((bk k).length : Int) - ((keepZ (bk k) id).length : Int))))).drew = W2 at g2 x2 ⊢
          have y0c := cells_of ((g2.block w.heap.size (by omega) (fun e => by have : w.heap.size = w.heap.size + 2 := Option.some.inj e; omega)).trans HY0.out)
          have ybc := cells_of ((g2.block bx (by omega) (fun e => by have : bx = w.heap.size + 2 := Option.some.inj e; omega)).trans HYB.out)
          have hm2 := HM1.out.kept g2 (fun e => by have : w.heap.size + 2 = mb := Option.some.inj e; omega)
          have G2 := Lib.hid g2
          have X2 := Lib.hid x2
          clear c2 f2 g2 x2
          by_cases hz : keepZ (bk k) id = []
          · have hc : ((((keepZ (bk k) id).length : Nat) : Int) == 0) = true := by rw [hz]; rfl
            obtain ⟨W3, hrun, hm3, hg3⟩ := hm2.drop (k := (k : Int)) (wf_int (by omega) (by omega)) 0
            have HST := Lib.hid (DI.step hbase HI.out HA.out HW.out hAg HRC2.out HG1.out HROW1.out G2.out X2.out (by rw [if_pos hz]; exact hm3.grow (by omega)) hg3)
            clear hm2 hm3 hg3 hz
            gi_wp2
            exact ⟨hs4.symm ▸ HST.out.2, _, HST.out.1⟩
          · have hc : ((((keepZ (bk k) id).length : Nat) : Int) == 0) = false := by have := List.length_pos_iff.2 hz; simp; omega
            obtain ⟨W3, hrun, hm3, hg3⟩ := hm2.store (k := (k : Int)) (wf_int (by omega) (by omega)) HNM.out (.slice (some ⟨g, 0, none⟩) (keepZ (bk k) id).length cap)
            have HST := Lib.hid (DI.step hbase HI.out HA.out HW.out hAg HRC2.out HG1.out HROW1.out G2.out X2.out (by rw [if_neg hz]; exact hm3) hg3)
            clear hm2 hm3 hg3 hz
            gi_wp2
            exact ⟨hs4.symm ▸ HST.out.2, _, HST.out.1⟩
        exact AllReadyH.nil
      exact AllReadyH.nil
    refine AllReadyH.cons rfl (fun K hK => ?_) ?_
    · skip
      go_simp
      rw [HLK.out]; rotate_left; · (repeat (first | exact Below.refl _ _ | apply Below.drew | refine Below.alloc ?_ (by simp) _))
      refine hK.out _ _ ?_ (fun hH2 => ?_)
      · assumption
      clear hK K hH
      have hH := hH2; clear hH2
      (try simp only [List.getElem_toArray, List.getElem_cons_succ, List.getElem_cons_zero, Act.put, List.setIfInBounds_toArray, List.set_cons_zero, List.set_cons_succ])
      refine wpAnyH_take (i := 7) (v := ?_) rfl (by kernel_rfl) (by kernel_rfl) (by kernel_rfl) (fun _ _ _ h => h) (Or.inl ⟨by rfl, ?_⟩) (by assumption) ?_
      rotate_left; focus (intro w hSw; (try dsimp only at hSw); go_simp; try with_reducible rfl)
      (try simp only [List.getElem_toArray, List.getElem_cons_succ, List.getElem_cons_zero, Act.put, List.setIfInBounds_toArray, List.set_cons_zero, List.set_cons_succ])
      refine wpAnyH_take (i := 10) (v := ?_) rfl (by kernel_rfl) (by kernel_rfl) (by kernel_rfl) (fun _ _ _ h => h) (Or.inl ⟨by rfl, ?_⟩) (by assumption) ?_
      rotate_left; focus (intro w hSw; (try dsimp only at hSw); go_simp; try with_reducible rfl)
      (try simp only [List.getElem_toArray, List.getElem_cons_succ, List.getElem_cons_zero, Act.put, List.setIfInBounds_toArray, List.set_cons_zero, List.set_cons_succ])
      refine wpAnyH_ready (rs := [0]) (by kernel_rfl) (by simp) ?_
      refine AllReadyH.cons rfl (fun K hK => ?_) ?_
      · skip
        go_simp
        refine hK.out _ _ ?_ (fun hH2 => ?_)
        · assumption
        clear hK K hH
        have hH := hH2; clear hH2
        (try simp only [List.getElem_toArray, List.getElem_cons_succ, List.getElem_cons_zero, Act.put, List.setIfInBounds_toArray, List.set_cons_zero, List.set_cons_succ])
        refine wpAnyH_take (i := 11) (v := ?_) rfl (by kernel_rfl) (by kernel_rfl) (by kernel_rfl) (fun _ _ _ h => h) (Or.inl ⟨by rfl, ?_⟩) (by assumption) ?_
        rotate_left; focus (intro w hSw; (try dsimp only at hSw); go_simp; try with_reducible rfl)
        (try simp only [List.getElem_toArray, List.getElem_cons_succ, List.getElem_cons_zero, Act.put, List.setIfInBounds_toArray, List.set_cons_zero, List.set_cons_succ])
        refine wpAnyH_ready (rs := [12]) (by kernel_rfl) (by simp) ?_
        refine AllReadyH.cons rfl (fun K hK => ?_) ?_
        · skip
          go_simp
          refine hK.out _ _ ?_ (fun hH2 => ?_)
          · exact ⟨SX.set hH.1 (by omega), SX.set hH.2 (by omega)⟩
          clear hK K hH
          have hH := hH2; clear hH2
          (try simp only [List.getElem_toArray, List.getElem_cons_succ, List.getElem_cons_zero, Act.put, List.setIfInBounds_toArray, List.set_cons_zero, List.set_cons_succ])
          refine wpAnyH_done (by kernel_rfl) ?_ _
          clear hH
          refine calmQ_end ?_
          rw [wrap_sum G _ _ (by omega) (by omega) (by omega)]
          have g2 : W1.grownBy (W1.setCell ⟨w.heap.size + 1 + 1, 0, none⟩ (.int .i64 (G + (((bk k).length : Int) - ((keepZ (bk k) id).length : Int))))).drew (some (w.heap.size + 2)) := gdrew (gset W1 (w.heap.size + 2) 0 _)
          have x2 : (W1.setCell ⟨w.heap.size + 1 + 1, 0, none⟩ (.int .i64 (G + (((bk k).length : Int) - ((keepZ (bk k) id).length : Int))))).drew.heap[w.heap.size + 2]? = some (.cells #[.int .i64 (gone bk id (k + 1))] 3 (0, 0)) := by
            have := heap_setCell_same W1 (w.heap.size + 2) 0 _ _ (.int .i64 (G + (((bk k).length : Int) - ((keepZ (bk k) id).length : Int)))) HY2.out
            rw [← HGE.out] at this ⊢
            exact this
          generalize (W1.setCell ⟨w.heap.size + 1 + 1, 0, none⟩ (.int .i64 (G + (((bk k).length : Int) - ((keepZ (bk k) id).length : Int))))).drew = W2 at g2 x2 ⊢
          have y0c := cells_of ((g2.block w.heap.size (by omega) (fun e => by have : w.heap.size = w.heap.size + 2 := Option.some.inj e; omega)).trans HY0.out)
          have ybc := cells_of ((g2.block bx (by omega) (fun e => by have : bx = w.heap.size + 2 := Option.some.inj e; omega)).trans HYB.out)
          have hm2 := HM1.out.kept g2 (fun e => by have : w.heap.size + 2 = mb := Option.some.inj e; omega)
          have G2 := Lib.hid g2
          have X2 := Lib.hid x2
          clear c2 f2 g2 x2
          by_cases hz : keepZ (bk k) id = []
          · have hc : ((((keepZ (bk k) id).length : Nat) : Int) == 0) = true := by rw [hz]; rfl
            obtain ⟨W3, hrun, hm3, hg3⟩ := hm2.drop (k := (k : Int)) (wf_int (by omega) (by omega)) 0
            have HST := Lib.hid (DI.step hbase HI.out HA.out HW.out hAg HRC2.out HG1.out HROW1.out G2.out X2.out (by rw [if_pos hz]; exact hm3.grow (by omega)) hg3)
            clear hm2 hm3 hg3 hz
            gi_wp2
            exact ⟨hs4.symm ▸ HST.out.2, _, HST.out.1⟩
          · have hc : ((((keepZ (bk k) id).length : Nat) : Int) == 0) = false := by have := List.length_pos_iff.2 hz; simp; omega
            obtain ⟨W3, hrun, hm3, hg3⟩ := hm2.store (k := (k : Int)) (wf_int (by omega) (by omega)) HNM.out (.slice (some ⟨g, 0, none⟩) (keepZ (bk k) id).length cap)
            have HST := Lib.hid (DI.step hbase HI.out HA.out HW.out hAg HRC2.out HG1.out HROW1.out G2.out X2.out (by rw [if_neg hz]; exact hm3) hg3)
            clear hm2 hm3 hg3 hz
            gi_wp2
            exact ⟨hs4.symm ▸ HST.out.2, _, HST.out.1⟩
        exact AllReadyH.nil
      exact AllReadyH.nil
    exact AllReadyH.nil
  case done =>
    rintro D W hD ⟨V, hW⟩ hd
    obtain ⟨hd1, hfin⟩ := drop_fin hbase HI.out hW HOUT.out (by omega) hd
    have hGb := HG.out M
    obtain ⟨G, hGe⟩ : ∃ G, gone bk id M = G := ⟨_, rfl⟩
    have hx2 := hW.x2
    rw [hGe] at hd1 hfin hGb hx2
    have HX0 := Lib.hid hW.x0
    have HX2 : Hid (W.heap[w.heap.size + 1 + 1]? = some (.cells #[.int .i64 G] 3 (0, 0))) := Lib.hid hx2
    have hlb2 := lt_of_block hW.idx.box
    have c0 := cells_of hW.x0
    have cb : W.cell? ⟨bx, 2, none⟩ = some (.int .i64 many) := cells_of hW.idx.box 2
    have fb := cells_free hW.idx.box 2
    have HD1 := Lib.hid hd1
    have HFIN := Lib.hid hfin
    clear hW hd1 hfin hx hd HI hb0 hGe hx2
    gi_wp2
    refine wpIn_region_held_wide (S := fun W => SX w.heap.size #[.pointer (some ⟨bx, 0, none⟩)] W ∧ SX (w.heap.size + 1 + 1) #[.int .i64 G] W) (by kernel_rfl) ?_ (fun hH => ?_)
    · exact ⟨SX.drew (SX.of HX0.out), SX.drew (SX.of HX2.out)⟩
    refine wpAnyH_take (i := 0) (v := ?_) rfl (by kernel_rfl) (by kernel_rfl) (by kernel_rfl) (fun _ _ _ h => h) (Or.inl ⟨by rfl, ?_⟩) (by assumption) ?_
    rotate_left; focus (intro w hSw; (try dsimp only at hSw); go_simp; try with_reducible rfl)
    (try simp only [List.getElem_toArray, List.getElem_cons_succ, List.getElem_cons_zero, Act.put, List.setIfInBounds_toArray, List.set_cons_zero, List.set_cons_succ])
    refine wpAnyH_take (i := 1) (v := ?_) rfl (by kernel_rfl) (by kernel_rfl) (by kernel_rfl) (fun _ _ _ h => h) (Or.inl ⟨by rfl, ?_⟩) (by assumption) ?_
    rotate_left; focus (intro w hSw; (try dsimp only at hSw); go_simp; try with_reducible rfl)
    (try simp only [List.getElem_toArray, List.getElem_cons_succ, List.getElem_cons_zero, Act.put, List.setIfInBounds_toArray, List.set_cons_zero, List.set_cons_succ])
    refine wpAnyH_take (i := 2) (v := ?_) rfl (by kernel_rfl) (by kernel_rfl) (by kernel_rfl) (fun _ _ _ h => h) (Or.inl ⟨by rfl, ?_⟩) (by assumption) ?_
    rotate_left; focus (intro w hSw; (try dsimp only at hSw); go_simp; try with_reducible rfl)
    (try simp only [List.getElem_toArray, List.getElem_cons_succ, List.getElem_cons_zero, Act.put, List.setIfInBounds_toArray, List.set_cons_zero, List.set_cons_succ])
    refine wpAnyH_take (i := 4) (v := ?_) rfl (by kernel_rfl) (by kernel_rfl) (by kernel_rfl) (fun _ _ _ h => h) (Or.inl ⟨by rfl, ?_⟩) (by assumption) ?_
    rotate_left; focus (intro w hSw; (try dsimp only at hSw); go_simp; try with_reducible rfl)
    (try simp only [List.getElem_toArray, List.getElem_cons_succ, List.getElem_cons_zero, Act.put, List.setIfInBounds_toArray, List.set_cons_zero, List.set_cons_succ])
    refine wpAnyH_ready (rs := [3]) (by kernel_rfl) (by simp) ?_
    refine AllReadyH.cons rfl (fun K hK => ?_) ?_
    · skip
      go_simp
      refine hK.out _ _ ?_ (fun hH2 => ?_)
      · assumption
      clear hK K hH
      have hH := hH2; clear hH2
      (try simp only [List.getElem_toArray, List.getElem_cons_succ, List.getElem_cons_zero, Act.put, List.setIfInBounds_toArray, List.set_cons_zero, List.set_cons_succ])
      refine wpAnyH_take (i := 5) (v := ?_) rfl (by kernel_rfl) (by kernel_rfl) (by kernel_rfl) (fun _ _ _ h => h) (Or.inl ⟨by rfl, ?_⟩) (by assumption) ?_
      rotate_left; focus (intro w hSw; (try dsimp only at hSw); go_simp; try with_reducible rfl)
      (try simp only [List.getElem_toArray, List.getElem_cons_succ, List.getElem_cons_zero, Act.put, List.setIfInBounds_toArray, List.set_cons_zero, List.set_cons_succ])
      refine wpAnyH_take (i := 6) (v := ?_) rfl (by kernel_rfl) (by kernel_rfl) (by kernel_rfl) (fun _ _ _ h => h) (Or.inl ⟨by rfl, ?_⟩) (by assumption) ?_
      rotate_left; focus (intro w hSw; (try dsimp only at hSw); go_simp; try with_reducible rfl)
      (try simp only [List.getElem_toArray, List.getElem_cons_succ, List.getElem_cons_zero, Act.put, List.setIfInBounds_toArray, List.set_cons_zero, List.set_cons_succ])
      refine wpAnyH_take (i := 7) (v := ?_) rfl (by kernel_rfl) (by kernel_rfl) (by kernel_rfl) (fun _ _ _ h => h) (Or.inl ⟨by rfl, ?_⟩) (by assumption) ?_
      rotate_left; focus (intro w hSw; (try dsimp only at hSw); go_simp; try with_reducible rfl)
      (try simp only [List.getElem_toArray, List.getElem_cons_succ, List.getElem_cons_zero, Act.put, List.setIfInBounds_toArray, List.set_cons_zero, List.set_cons_succ])
      refine wpAnyH_ready (rs := [8]) (by kernel_rfl) (by simp) ?_
      refine AllReadyH.cons rfl (fun K hK => ?_) ?_
      · skip
        go_simp
        refine hK.out _ _ ?_ (fun hH2 => ?_)
        · exact ⟨SX.set hH.1 (by omega), SX.set hH.2 (by omega)⟩
        clear hK K hH
        have hH := hH2; clear hH2
        (try simp only [List.getElem_toArray, List.getElem_cons_succ, List.getElem_cons_zero, Act.put, List.setIfInBounds_toArray, List.set_cons_zero, List.set_cons_succ])
        refine wpAnyH_done (by kernel_rfl) ?_ _
        clear hH
        refine calmQ_end ?_
        rw [wrap_less many G (by omega) hmany]
        have c2 : (W.setCell ⟨bx, 2, none⟩ (.int .i64 (many - G))).drew.cell? ⟨w.heap.size + 1 + 1, 0, none⟩ = some (.int .i64 G) := cells_of (((gset W bx 2 (.int .i64 (many - G))).block (w.heap.size + 1 + 1) (lt_of_block HX2.out) (fun e => by have : w.heap.size + 1 + 1 = bx := Option.some.inj e; omega)).trans HX2.out) 0
        gi_wp2
        refine ⟨by simp, .inl ⟨_, _, rfl, run_takeDeferred HD1.out, ?_⟩⟩
        refine ⟨_, results_tmp rfl _ _ _, ?_⟩
        exact HFIN.out
      exact AllReadyH.nil
    exact AllReadyH.nil
  case stop =>
    rintro D c W _ h _
    exact h.elim
end Go.Proofs.Ytigdibglkejciaa.Buck
