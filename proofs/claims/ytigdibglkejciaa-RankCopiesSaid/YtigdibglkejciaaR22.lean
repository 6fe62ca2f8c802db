/-
  Plain, walked.
-/
import Derived.Test.YtigdibglkejciaaR21
namespace Go.Proofs.Ytigdibglkejciaa.Rank
open Go.RowKit
set_option linter.unusedSimpArgs false

def PlainPost (n : Nat) (v : List (Trm n)) (w : World) (e : Ending) (w' : World) : Prop := ∃ (a : Option Addr) (cap : Nat), e = .returned (.agg #[.slice a v.length cap]) ∧ Below w.heap.size w w' ∧ ValAt w' (rng w.heap.size w') (rng w.heap.size w') n a v.length cap v
def PlainOk (n : Nat) : Prop := ∀ (W : World) (B : Nat) (_ : B ≤ W.heap.size) (xf : Option Addr) (xn xc : Nat) (v : List (Trm n)), ValIn W B n xf xn xc v → Small n v →
  Calls Try.prog 49 #[.agg #[.slice xf xn xc]] W (PlainPost n v W)

theorem new_cells (w : World) (c : Array Value) (T : TypeId) : (w.alloc (.cells c T)).heap[w.heap.size]? = some (.cells c T (0, 0)) := by
  show (w.heap.push _)[w.heap.size]? = _
  exact Array.getElem?_push_size
theorem heap_old {w w' : World} {B b : Nat} {x : Option Obj} (h : Below B w w') (hb : b < B) (e : w.heap[b]? = x) : w'.heap[b]? = x := (h.block b hb).trans e
theorem cells_at {w : World} {b : Nat} {c : Array Value} {T : TypeId} (h : w.heap[b]? = some (.cells c T (0, 0))) (o : Nat) : w.cell? ⟨b, o, none⟩ = c[o]? := by
  simp [World.cell?, h]
theorem cells_free {w : World} {b : Nat} {c : Array Value} {T : TypeId} (h : w.heap[b]? = some (.cells c T (0, 0))) (o : Nat) : w.frozen? ⟨b, o, none⟩ = false := by
  simp [World.frozen?, h]

/-- A block that reads so. -/
abbrev SF (b : Nat) (c : Array Value) (W : World) : Prop := (∀ o, W.cell? ⟨b, o, none⟩ = c[o]?) ∧ b < W.heap.size
theorem SF.of {w : World} {b : Nat} {c : Array Value} {T : TypeId} (h : w.heap[b]? = some (.cells c T (0, 0))) : SF b c w := ⟨cells_at h, lt_of_block h⟩
theorem SF.below {b : Nat} {c : Array Value} {W W' : World} (h : SF b c W) (hb : Below W.heap.size W W') : SF b c W' := ⟨fun o => (hb.cell (p := ⟨b, o, none⟩) h.2).trans (h.1 o), Nat.lt_of_lt_of_le h.2 hb.size⟩
theorem SF.drew {b : Nat} {c : Array Value} {W : World} (h : SF b c W) : SF b c W.drew := h
theorem SF.alloc {b : Nat} {c : Array Value} {W : World} (h : SF b c W) (o : Obj) : SF b c (W.alloc o) := h.below (bel1 _ _)
theorem SF.grown {b : Nat} {c : Array Value} {W W' : World} {row : Option Nat} (h : SF b c W) (hg : W.grownBy W' row) (hr : row ≠ some b) : SF b c W' := ⟨fun o => (hg.cell_far ⟨b, o, none⟩ h.2 (Ne.symm hr)).trans (h.1 o), Nat.lt_of_lt_of_le h.2 hg.size⟩
theorem SF.set {b g o : Nat} {c : Array Value} {W : World} {u : Value} (h : SF b c W) (hne : g ≠ b) : SF b c (W.setCell ⟨g, o, none⟩ u) := ⟨fun o' => (cell_set_ne _ _ _ _ _ _ (Or.inl hne)).trans (h.1 o'), by rw [World.size_setCell]; exact h.2⟩

set_option maxRecDepth 100000 in
set_option maxHeartbeats 16000000 in
theorem plain_succ (n : Nat) (HW : Hid (PlainOk n)) : PlainOk (n + 1) := by
  intro w B hB xa xn xc v hv hsm
  have el := hv.len
  have HV := Lib.hid hv
  have hlen := hsm.1
  have HS := Lib.hid hsm
  obtain ⟨iT, hiT, zT0, zT1, zT2⟩ := info_parts info33
  obtain ⟨iF, hiF, zF0, zF1, zF2⟩ := info_parts info87
  have HIT := Lib.hid (show Try.prog.info? 33 = some iT ∧ iT.zero = _ ∧ iT.size = 8 ∧ iT.bytes = 72 from ⟨hiT, zT0, zT1, zT2⟩)
  have HIF := Lib.hid (show Try.prog.info? 87 = some iF ∧ iF.zero = _ ∧ iF.size = 2 ∧ iF.bytes = 40 from ⟨hiF, zF0, zF1, zF2⟩)
  clear hsm hv hiT zT0 zT1 zT2 hiF zF0 zF1 zF2
  subst el
  have hb0 : Below w.heap.size w (((w.alloc (.cells #[.slice xa v.length xc] 47)).alloc (.cells #[.slice none 0 0] 47)).alloc (.cells #[.slice none 0 0] 47)) := (bel2 _ _ _).alloc (by simp; omega) _
  have hx0 : (((w.alloc (.cells #[.slice xa v.length xc] 47)).alloc (.cells #[.slice none 0 0] 47)).alloc (.cells #[.slice none 0 0] 47)).heap[w.heap.size]? = some (.cells #[.slice xa v.length xc] 47 (0, 0)) := heap_old (bel2 (w.alloc (.cells #[.slice xa v.length xc] 47)) _ _) (by simp) (new_cells w _ _)
  have hx1 : (((w.alloc (.cells #[.slice xa v.length xc] 47)).alloc (.cells #[.slice none 0 0] 47)).alloc (.cells #[.slice none 0 0] 47)).heap[w.heap.size + 1]? = some (.cells #[.slice none 0 0] 47 (0, 0)) := by
    have h1 := new_cells (w.alloc (.cells #[.slice xa v.length xc] 47)) #[.slice none 0 0] 47
    rw [World.size_alloc] at h1
    exact heap_old (bel1 ((w.alloc (.cells #[.slice xa v.length xc] 47)).alloc (.cells #[.slice none 0 0] 47)) (.cells #[.slice none 0 0] 47)) (by simp) h1
  have hx2 : (((w.alloc (.cells #[.slice xa v.length xc] 47)).alloc (.cells #[.slice none 0 0] 47)).alloc (.cells #[.slice none 0 0] 47)).heap[w.heap.size + 2]? = some (.cells #[.slice none 0 0] 47 (0, 0)) := by
    have := new_cells ((w.alloc (.cells #[.slice xa v.length xc] 47)).alloc (.cells #[.slice none 0 0] 47)) #[.slice none 0 0] 47
    rw [World.size_alloc, World.size_alloc] at this
    exact this
  go_enter Try.func49, Try.ntmps49
  go_wp2
  generalize ((w.alloc (.cells #[.slice xa v.length xc] 47)).alloc (.cells #[.slice none 0 0] 47)).alloc (.cells #[.slice none 0 0] 47) = W at hb0 hx0 hx1 hx2 ⊢
  have HX0 := Lib.hid hx0
  have HX1 := Lib.hid hx1
  have HX2 := Lib.hid hx2
  clear hx0 hx1 hx2
  go_loopw [4] (fun i wr => ∃ (k : Nat) (aV : Option Addr) (cV : Nat) (zs : List Value), k ≤ v.length ∧ i = .int .i64 k ∧ Below w.heap.size w wr ∧ Hid (wr.heap[w.heap.size]? = some (.cells #[.slice xa v.length xc] 47 (0, 0))) ∧ Hid (wr.heap[w.heap.size + 1]? = some (.cells #[.slice none 0 0] 47 (0, 0))) ∧ Hid (wr.heap[w.heap.size + 2]? = some (.cells #[.slice aV k cV] 47 (0, 0))) ∧ Hid (PT wr (w.heap.size + 3) n k (.slice aV k cV) zs v)) (fun i _ => v.length - (intOf i).toNat)
  case atStart => exact ⟨0, none, 0, [], Nat.zero_le _, rfl, hb0, HX0, HX1, HX2, PT.zero _ _ _ _⟩
  case round =>
    obtain ⟨k, aV, cV, zs, hk, rfl, hbel, hy0, hy1, hy2, hPT⟩ := hrel
    clear HX0 HX1 HX2 hb0
    have hA0 := cells_at hy0.out
    have hA2 : ∀ o, wr.cell? ⟨w.heap.size + 1 + 1, o, none⟩ = #[.slice aV k cV][o]? := cells_at hy2.out
    have hA1 := cells_at hy1.out
    have hf1 := cells_free hy1.out
    have hf2 : ∀ o, wr.frozen? ⟨w.heap.size + 1 + 1, o, none⟩ = false := cells_free hy2.out
    have hl0 := lt_of_block hy2.out
    have hsw := hbel.size
    by_cases hlt : k < v.length
    · obtain ⟨xb, xo', rfl⟩ := HV.out.some (by omega)
      obtain ⟨xk, xl, xh, xs, xa', xm, xo, fs, fa, fl, fc, hx, hxb, hxp, hxf⟩ := HV.out.elem k hlt
      have hP : PlAt wr xb xo' k ⟨xk, xl, xh, xs, xa', xm, xo⟩ fa fl fc := hxp.kept (fun o => hbel.cell (p := ⟨xb, o, none⟩) (by show xb < w.heap.size; omega))
      obtain ⟨c0, c1, c2, c3, c4, c5, c6, c7⟩ := hP
      simp only at c0 c1 c2 c3 c4 c5 c6
      have efl := hxf.len
      have hsmF : fs.length ≤ 100 ∧ ∀ j (g : j < fs.length), Small n fs[j].2 := by
        obtain ⟨g1, e1⟩ := hx.out
        have := HS.out.2 k g1
        rw [e1] at this
        exact this
      obtain ⟨hfl, hsF⟩ := hsmF
      have HSF := Lib.hid hsF
      subst efl
      have HF := Lib.hid hxf
      have HC7 := Lib.hid (show w.cell? ⟨xb, xo' + k * 8 + 7, none⟩ = some (.slice fa fs.length fc) from hxp.2.2.2.2.2.2.2)
      clear hsF hxp hxf
      have i1 : (0 : Int) ≤ (k : Int) := by omega
      have i2 : (k : Int) < (v.length : Int) := by omega
      have hbT := bel1 wr (.cells #[.int .i64 xk, .int .i64 xl, .int .i64 xh, .string xs, .bool xa', .bool xm, .bool xo, .slice none 0 0] 33)
      have hnT := Lib.hid (new_cells wr #[.int .i64 xk, .int .i64 xl, .int .i64 xh, .string xs, .bool xa', .bool xm, .bool xo, .slice none 0 0] 33)
      go_wp2
      generalize wr.alloc (.cells #[.int .i64 xk, .int .i64 xl, .int .i64 xh, .string xs, .bool xa', .bool xm, .bool xo, .slice none 0 0] 33) = W1 at hbT hnT ⊢
      clear hA0 hA1 hA2 hf1 hf2 c0 c1 c2 c3 c4 c5 c6 c7
      obtain ⟨wo, hwo⟩ : ∃ wo : World, wo = wr := ⟨_, rfl⟩
      subst hwo
      go_loopw [6] (fun i wr => ∃ (j : Nat) (aF : Option Addr) (cF : Nat) (ys : List Value), j ≤ fs.length ∧ i = .int .i64 j ∧ Below wo.heap.size wo wr ∧ Hid (wr.heap[wo.heap.size]? = some (.cells #[.int .i64 xk, .int .i64 xl, .int .i64 xh, .string xs, .bool xa', .bool xm, .bool xo, .slice aF j cF] 33 (0, 0))) ∧ Hid (PF wr (wo.heap.size + 1) n j (.slice aF j cF) ys fs)) (fun i _ => fs.length - (intOf i).toNat)
      case atStart => exact ⟨0, none, 0, [], Nat.zero_le _, rfl, hbT, hnT, PF.zero _ _ _ _⟩
      case round =>
        obtain ⟨j, aF, cF, qs, hj, rfl, hbel2, hT, hPF⟩ := hrel
        clear hbT hnT
        have hA0 := cells_at (heap_old hbel2 (by omega) hy0.out)
        have hsw2 := hbel2.size
        have hlT := lt_of_block hT.out
        have c7 : wr.cell? ⟨xb, xo' + k * 8 + 7, none⟩ = some (.slice fa fs.length fc) := ((hbel.trans (hbel2.mono hsw)).cell (p := ⟨xb, _, none⟩) (by show xb < w.heap.size; omega)).trans HC7.out
        by_cases hjlt : j < fs.length
        · obtain ⟨fb, fo, rfl⟩ := HF.out.some (by omega)
          obtain ⟨ys, gs, ta, tl, tc, hy, hyb, hd0, hd1, hyf⟩ := HF.out.elem j hjlt
          have K1 := fun o => (hbel.trans (hbel2.mono hsw)).cell (p := ⟨fb, o, none⟩) (by show fb < w.heap.size; omega)
          have d0 := (K1 _).trans hd0
          have d1 := (K1 _).trans hd1
          have hsmall : Small n gs := by
            obtain ⟨g1, e1⟩ := hy.out
            have := HSF.out j g1
            rw [e1] at this
            exact this
          have CP : ∀ W, Below wr.heap.size wr W → Calls Try.prog 49 #[.agg #[.slice ta tl tc]] W (PlainPost n gs W) := fun W hW => (HW.out : PlainOk n) W B (by have := hW.size; omega) ta tl tc gs (hyf.below (((hbel.trans (hbel2.mono hsw)).mono hB).trans (hW.mono (by omega)))) hsmall
          replace CP := Lib.hid CP
          clear K1 hd0 hd1 hyf hsmall
          have i3 : (0 : Int) ≤ (j : Int) := by omega
          have i4 : (j : Int) < (fs.length : Int) := by omega
          have hl3 : xb < wr.heap.size := by omega
          have hl4 : fb < wr.heap.size := by omega
          have hbF := bel1 wr (.cells #[.string ys, .slice ta tl tc] 87)
          have hnF := new_cells wr #[.string ys, .slice ta tl tc] 87
          have hsF : (wr.alloc (.cells #[.string ys, .slice ta tl tc] 87)).heap.size = wr.heap.size + 1 := by simp
          go_wp2
          generalize wr.alloc (.cells #[.string ys, .slice ta tl tc] 87) = W3 at hbF hnF hsF ⊢
          have hH : SF wr.heap.size #[.string ys, .slice ta tl tc] W3 := SF.of hnF
          have hTc := cells_at (heap_old hbF hlT hT.out)
          have hTf := cells_free (heap_old hbF hlT hT.out)
          have hlT3 : wo.heap.size < W3.heap.size := by omega
          have hsz3 : W3.heap.size = wr.heap.size + 1 := hsF
          replace hsz3 := Lib.hid hsz3
          clear hnF hsF d0 d1 c7 hA0
          refine wp_region_held_drew (S := SF wr.heap.size #[.string ys, .slice ta tl tc]) (by kernel_rfl) ?_ (fun hH => ?_)
          · exact SF.drew (by assumption)
          refine wpAnyH_take (i := 0) (v := ?_) rfl (by kernel_rfl) (by kernel_rfl) (by kernel_rfl) (fun _ _ _ h => h) (Or.inl ⟨by rfl, ?_⟩) (by assumption) ?_
          rotate_left; focus (intro w hSw; (try dsimp only at hSw); go_simp; try with_reducible rfl)
          (try simp only [List.getElem_toArray, List.getElem_cons_succ, List.getElem_cons_zero, Act.put, List.setIfInBounds_toArray, List.set_cons_zero, List.set_cons_succ])
          refine wpAnyH_take (i := 2) (v := ?_) rfl (by kernel_rfl) (by kernel_rfl) (by kernel_rfl) (fun _ _ _ h => h) (Or.inl ⟨by rfl, ?_⟩) (by assumption) ?_
          rotate_left; focus (intro w hSw; (try dsimp only at hSw); go_simp; try with_reducible rfl)
          (try simp only [List.getElem_toArray, List.getElem_cons_succ, List.getElem_cons_zero, Act.put, List.setIfInBounds_toArray, List.set_cons_zero, List.set_cons_succ])
          refine wpAnyH_take (i := 3) (v := ?_) rfl (by kernel_rfl) (by kernel_rfl) (by kernel_rfl) (fun _ _ _ h => h) (Or.inl ⟨by rfl, ?_⟩) (by assumption) ?_
          rotate_left; focus (intro w hSw; (try dsimp only at hSw); go_simp; try with_reducible rfl)
          (try simp only [List.getElem_toArray, List.getElem_cons_succ, List.getElem_cons_zero, Act.put, List.setIfInBounds_toArray, List.set_cons_zero, List.set_cons_succ])
          refine wpAnyH_take (i := 4) (v := ?_) rfl (by kernel_rfl) (by kernel_rfl) (by kernel_rfl) (fun _ _ _ h => h) (Or.inl ⟨by rfl, ?_⟩) (by assumption) ?_
          rotate_left; focus (intro w hSw; (try dsimp only at hSw); go_simp; try with_reducible rfl)
          (try simp only [List.getElem_toArray, List.getElem_cons_succ, List.getElem_cons_zero, Act.put, List.setIfInBounds_toArray, List.set_cons_zero, List.set_cons_succ])
          refine wpAnyH_take (i := 5) (v := ?_) rfl (by kernel_rfl) (by kernel_rfl) (by kernel_rfl) (fun _ _ _ h => h) (Or.inl ⟨by rfl, ?_⟩) (by assumption) ?_
          rotate_left; focus (intro w hSw; (try dsimp only at hSw); go_simp; try with_reducible rfl)
          (try simp only [List.getElem_toArray, List.getElem_cons_succ, List.getElem_cons_zero, Act.put, List.setIfInBounds_toArray, List.set_cons_zero, List.set_cons_succ])
          refine wpAnyH_ready (rs := [1, 6]) (by kernel_rfl) (by simp) ?_
          refine AllReadyH.cons rfl (fun K hK => ?_) ?_
          · skip
            go_simp
            refine hK.out _ _ ?_ (fun hH2 => ?_)
            · assumption
            clear hK K hH
            have hH := hH2; clear hH2
            (try simp only [List.getElem_toArray, List.getElem_cons_succ, List.getElem_cons_zero, Act.put, List.setIfInBounds_toArray, List.set_cons_zero, List.set_cons_succ])
            refine wpAnyH_ready (rs := [6]) (by kernel_rfl) (by simp) ?_
            refine AllReadyH.cons rfl (fun K hK => ?_) ?_
            · skip
              go_simp
              go_at_call 49
              (with_reducible refine (CP.out _ (by exact hbF.drew)).mono ?_)
              rintro e w4 ⟨ra, rcap, rfl, hb4, hown⟩
              have hb4' : Below W3.heap.size W3 w4 := (Below.refl _ _).drew.trans hb4
              have hT4 : ∀ o, w4.cell? ⟨wo.heap.size, o, none⟩ = #[.int .i64 xk, .int .i64 xl, .int .i64 xh, .string xs, .bool xa', .bool xm, .bool xo, .slice aF j cF][o]? := fun o => (hb4'.cell (p := ⟨wo.heap.size, o, none⟩) hlT3).trans (hTc o)
              have hs4 : W3.heap.size ≤ w4.heap.size := hb4.size
              have hlT4 : wo.heap.size < w4.heap.size := (by omega)
              replace hown := Lib.hid hown
              go_wp2_with fail
              refine hK.out _ _ ?_ (fun hH2 => ?_)
              · exact hH.below hb4
              clear hK K hH
              have hH := hH2; clear hH2
              (try simp only [List.getElem_toArray, List.getElem_cons_succ, List.getElem_cons_zero, Act.put, List.setIfInBounds_toArray, List.set_cons_zero, List.set_cons_succ])
              refine wpAnyH_take (i := 7) (v := ?_) rfl (by kernel_rfl) (by kernel_rfl) (by kernel_rfl) (fun _ _ _ h => h) (Or.inl ⟨by rfl, ?_⟩) (by assumption) ?_
              rotate_left; focus (intro w hSw; (try dsimp only at hSw); go_simp; try with_reducible rfl)
              (try simp only [List.getElem_toArray, List.getElem_cons_succ, List.getElem_cons_zero, Act.put, List.setIfInBounds_toArray, List.set_cons_zero, List.set_cons_succ])
              refine wpAnyH_ready (rs := [8]) (by kernel_rfl) (by simp) ?_
              refine AllReadyH.cons rfl (fun K hK => ?_) ?_
              · skip
                go_simp
                refine hK.out _ _ ?_ (fun hH2 => ?_)
                · exact hH.alloc _
                clear hK K hH
                have hH := hH2; clear hH2
                (try simp only [List.getElem_toArray, List.getElem_cons_succ, List.getElem_cons_zero, Act.put, List.setIfInBounds_toArray, List.set_cons_zero, List.set_cons_succ])
                refine wpAnyH_ready (rs := [9]) (by kernel_rfl) (by simp) ?_
                refine AllReadyH.cons rfl (fun K hK => ?_) ?_
                · skip
                  refine step_append_lies _ (by rfl) _ _ 31 (by rfl) (wo.heap.size + 1) 87 iF _ 2 40 Try.underlying31 HIF.out.1 HIF.out.2.1 HIF.out.2.2.1 HIF.out.2.2.2 (by rfl) (by decide) (.slice aF j cF) j qs (by rfl) ((own_below (own_below (own_below hPF.out.1 hbF) ((Below.refl _ _).drew.trans hb4)) (bel1 _ _))) ⟨w4.heap.size, 0, none⟩ 1 1 [.string ys, .slice ra gs.length rcap] (by rfl) (by rfl) (World.news_of_block (new_cells w4 _ _)) (by intro u hu; simp at hu; rcases hu with rfl | rfl <;> rfl) (by omega) (by unfold maxLen; omega) (by omega) (by simp; omega) (w4.heap.size + 1) (by simp) ?_
                  intro g cap w5 hown5 hgrow hat hlt5
                  have hrow : ∀ k, (Value.slice aF j cF).ownBlock = some k → wo.heap.size + 1 ≤ k ∧ k < wr.heap.size := hPF.out.1.lt
                  obtain ⟨hT5, hT6⟩ := block_set (off := 7) (u := .slice (some ⟨g, 0, none⟩) (j + 1) cap) hT.out hlT (hbF.trans (hb4'.mono hbF.size)) hgrow (by intro e; have := (hrow _ e).1; omega)
                  have hT5c := cells_at hT5
                  have hT5f := cells_free hT5
                  refine hK.out _ _ ?_ (fun hH2 => ?_)
                  · exact hH.grown hgrow (by intro e; have := (hrow _ e).2; omega)
                  clear hK K hH
                  have hH := hH2; clear hH2
                  (try simp only [List.getElem_toArray, List.getElem_cons_succ, List.getElem_cons_zero, Act.put, List.setIfInBounds_toArray, List.set_cons_zero, List.set_cons_succ])
                  refine wpAnyH_take (i := 10) (v := ?_) rfl (by kernel_rfl) (by kernel_rfl) (by kernel_rfl) (fun _ _ _ h => h) (Or.inl ⟨by rfl, ?_⟩) (by assumption) ?_
                  rotate_left; focus (intro w hSw; (try dsimp only at hSw); go_simp; try with_reducible rfl)
                  (try simp only [List.getElem_toArray, List.getElem_cons_succ, List.getElem_cons_zero, Act.put, List.setIfInBounds_toArray, List.set_cons_zero, List.set_cons_succ])
                  refine wpAnyH_ready (rs := [11]) (by kernel_rfl) (by simp) ?_
                  refine AllReadyH.cons rfl (fun K hK => ?_) ?_
                  · skip
                    go_simp
                    refine hK.out _ _ ?_ (fun hH2 => ?_)
                    · exact hH.set (by omega)
                    clear hK K hH
                    have hH := hH2; clear hH2
                    (try simp only [List.getElem_toArray, List.getElem_cons_succ, List.getElem_cons_zero, Act.put, List.setIfInBounds_toArray, List.set_cons_zero, List.set_cons_succ])
                    refine wpAnyH_done (by kernel_rfl) ?_ _
                    clear hH
                    have hfin := PF.next (u := .slice (some ⟨g, 0, none⟩) (j + 1) cap) hPF.out hjlt hy.out.2 hlT hbF hb4' hown.out hown5 hgrow hat
                    have hbn := below_next (B := wo.heap.size) (t := wo.heap.size) (off := 7) (u := .slice (some ⟨g, 0, none⟩) (j + 1) cap) hsw2 (hbF.trans (hb4'.mono hbF.size)) hgrow (fun k e => by have := (hrow k e).1; omega) (Nat.le_refl _)
                    have hbn2 := Lib.hid (hbel2.trans hbn)
                    replace hfin := Lib.hid hfin
                    replace hT6 := Lib.hid hT6
                    clear hbn hT5 hT5c hT5f hTc hTf hT4
                    go_wp2
                    go_roundw
                    case rel => exact ⟨j + 1, _, _, _, by omega, by go_num, hbn2.out, hT6, hfin⟩
                    case measure => simp [intOf]; omega
                  exact AllReadyH.nil
                exact AllReadyH.nil
              exact AllReadyH.nil
            exact AllReadyH.nil
          refine AllReadyH.cons rfl (fun K hK => ?_) ?_
          · skip
            go_simp
            go_at_call 49
            (with_reducible refine (CP.out _ (by exact hbF.drew)).mono ?_)
            rintro e w4 ⟨ra, rcap, rfl, hb4, hown⟩
            have hb4' : Below W3.heap.size W3 w4 := (Below.refl _ _).drew.trans hb4
            have hT4 : ∀ o, w4.cell? ⟨wo.heap.size, o, none⟩ = #[.int .i64 xk, .int .i64 xl, .int .i64 xh, .string xs, .bool xa', .bool xm, .bool xo, .slice aF j cF][o]? := fun o => (hb4'.cell (p := ⟨wo.heap.size, o, none⟩) hlT3).trans (hTc o)
            have hs4 : W3.heap.size ≤ w4.heap.size := hb4.size
            have hlT4 : wo.heap.size < w4.heap.size := (by omega)
            replace hown := Lib.hid hown
            go_wp2_with fail
            refine hK.out _ _ ?_ (fun hH2 => ?_)
            · exact hH.below hb4
            clear hK K hH
            have hH := hH2; clear hH2
            (try simp only [List.getElem_toArray, List.getElem_cons_succ, List.getElem_cons_zero, Act.put, List.setIfInBounds_toArray, List.set_cons_zero, List.set_cons_succ])
            refine wpAnyH_take (i := 7) (v := ?_) rfl (by kernel_rfl) (by kernel_rfl) (by kernel_rfl) (fun _ _ _ h => h) (Or.inl ⟨by rfl, ?_⟩) (by assumption) ?_
            rotate_left; focus (intro w hSw; (try dsimp only at hSw); go_simp; try with_reducible rfl)
            (try simp only [List.getElem_toArray, List.getElem_cons_succ, List.getElem_cons_zero, Act.put, List.setIfInBounds_toArray, List.set_cons_zero, List.set_cons_succ])
            refine wpAnyH_ready (rs := [1, 8]) (by kernel_rfl) (by simp) ?_
            refine AllReadyH.cons rfl (fun K hK => ?_) ?_
            · skip
              go_simp
              refine hK.out _ _ ?_ (fun hH2 => ?_)
              · assumption
              clear hK K hH
              have hH := hH2; clear hH2
              (try simp only [List.getElem_toArray, List.getElem_cons_succ, List.getElem_cons_zero, Act.put, List.setIfInBounds_toArray, List.set_cons_zero, List.set_cons_succ])
              refine wpAnyH_ready (rs := [8]) (by kernel_rfl) (by simp) ?_
              refine AllReadyH.cons rfl (fun K hK => ?_) ?_
              · skip
                go_simp
                refine hK.out _ _ ?_ (fun hH2 => ?_)
                · exact hH.alloc _
                clear hK K hH
                have hH := hH2; clear hH2
                (try simp only [List.getElem_toArray, List.getElem_cons_succ, List.getElem_cons_zero, Act.put, List.setIfInBounds_toArray, List.set_cons_zero, List.set_cons_succ])
                refine wpAnyH_ready (rs := [9]) (by kernel_rfl) (by simp) ?_
                refine AllReadyH.cons rfl (fun K hK => ?_) ?_
                · skip
                  refine step_append_lies _ (by rfl) _ _ 31 (by rfl) (wo.heap.size + 1) 87 iF _ 2 40 Try.underlying31 HIF.out.1 HIF.out.2.1 HIF.out.2.2.1 HIF.out.2.2.2 (by rfl) (by decide) (.slice aF j cF) j qs (by rfl) ((own_below (own_below (own_below hPF.out.1 hbF) ((Below.refl _ _).drew.trans hb4)) (bel1 _ _))) ⟨w4.heap.size, 0, none⟩ 1 1 [.string ys, .slice ra gs.length rcap] (by rfl) (by rfl) (World.news_of_block (new_cells w4 _ _)) (by intro u hu; simp at hu; rcases hu with rfl | rfl <;> rfl) (by omega) (by unfold maxLen; omega) (by omega) (by simp; omega) (w4.heap.size + 1) (by simp) ?_
                  intro g cap w5 hown5 hgrow hat hlt5
                  have hrow : ∀ k, (Value.slice aF j cF).ownBlock = some k → wo.heap.size + 1 ≤ k ∧ k < wr.heap.size := hPF.out.1.lt
                  obtain ⟨hT5, hT6⟩ := block_set (off := 7) (u := .slice (some ⟨g, 0, none⟩) (j + 1) cap) hT.out hlT (hbF.trans (hb4'.mono hbF.size)) hgrow (by intro e; have := (hrow _ e).1; omega)
                  have hT5c := cells_at hT5
                  have hT5f := cells_free hT5
                  refine hK.out _ _ ?_ (fun hH2 => ?_)
                  · exact hH.grown hgrow (by intro e; have := (hrow _ e).2; omega)
                  clear hK K hH
                  have hH := hH2; clear hH2
                  (try simp only [List.getElem_toArray, List.getElem_cons_succ, List.getElem_cons_zero, Act.put, List.setIfInBounds_toArray, List.set_cons_zero, List.set_cons_succ])
                  refine wpAnyH_take (i := 10) (v := ?_) rfl (by kernel_rfl) (by kernel_rfl) (by kernel_rfl) (fun _ _ _ h => h) (Or.inl ⟨by rfl, ?_⟩) (by assumption) ?_
                  rotate_left; focus (intro w hSw; (try dsimp only at hSw); go_simp; try with_reducible rfl)
                  (try simp only [List.getElem_toArray, List.getElem_cons_succ, List.getElem_cons_zero, Act.put, List.setIfInBounds_toArray, List.set_cons_zero, List.set_cons_succ])
                  refine wpAnyH_ready (rs := [11]) (by kernel_rfl) (by simp) ?_
                  refine AllReadyH.cons rfl (fun K hK => ?_) ?_
                  · skip
                    go_simp
                    refine hK.out _ _ ?_ (fun hH2 => ?_)
                    · exact hH.set (by omega)
                    clear hK K hH
                    have hH := hH2; clear hH2
                    (try simp only [List.getElem_toArray, List.getElem_cons_succ, List.getElem_cons_zero, Act.put, List.setIfInBounds_toArray, List.set_cons_zero, List.set_cons_succ])
                    refine wpAnyH_done (by kernel_rfl) ?_ _
                    clear hH
                    have hfin := PF.next (u := .slice (some ⟨g, 0, none⟩) (j + 1) cap) hPF.out hjlt hy.out.2 hlT hbF hb4' hown.out hown5 hgrow hat
                    have hbn := below_next (B := wo.heap.size) (t := wo.heap.size) (off := 7) (u := .slice (some ⟨g, 0, none⟩) (j + 1) cap) hsw2 (hbF.trans (hb4'.mono hbF.size)) hgrow (fun k e => by have := (hrow k e).1; omega) (Nat.le_refl _)
                    have hbn2 := Lib.hid (hbel2.trans hbn)
                    replace hfin := Lib.hid hfin
                    replace hT6 := Lib.hid hT6
                    clear hbn hT5 hT5c hT5f hTc hTf hT4
                    go_wp2
                    go_roundw
                    case rel => exact ⟨j + 1, _, _, _, by omega, by go_num, hbn2.out, hT6, hfin⟩
                    case measure => simp [intOf]; omega
                  exact AllReadyH.nil
                exact AllReadyH.nil
              exact AllReadyH.nil
            refine AllReadyH.cons rfl (fun K hK => ?_) ?_
            · skip
              go_simp
              refine hK.out _ _ ?_ (fun hH2 => ?_)
              · exact hH.alloc _
              clear hK K hH
              have hH := hH2; clear hH2
              (try simp only [List.getElem_toArray, List.getElem_cons_succ, List.getElem_cons_zero, Act.put, List.setIfInBounds_toArray, List.set_cons_zero, List.set_cons_succ])
              refine wpAnyH_ready (rs := [1]) (by kernel_rfl) (by simp) ?_
              refine AllReadyH.cons rfl (fun K hK => ?_) ?_
              · skip
                go_simp
                refine hK.out _ _ ?_ (fun hH2 => ?_)
                · assumption
                clear hK K hH
                have hH := hH2; clear hH2
                (try simp only [List.getElem_toArray, List.getElem_cons_succ, List.getElem_cons_zero, Act.put, List.setIfInBounds_toArray, List.set_cons_zero, List.set_cons_succ])
                refine wpAnyH_ready (rs := [9]) (by kernel_rfl) (by simp) ?_
                refine AllReadyH.cons rfl (fun K hK => ?_) ?_
                · skip
                  refine step_append_lies _ (by rfl) _ _ 31 (by rfl) (wo.heap.size + 1) 87 iF _ 2 40 Try.underlying31 HIF.out.1 HIF.out.2.1 HIF.out.2.2.1 HIF.out.2.2.2 (by rfl) (by decide) (.slice aF j cF) j qs (by rfl) ((own_below (own_below (own_below hPF.out.1 hbF) ((Below.refl _ _).drew.trans hb4)) (bel1 _ _))) ⟨w4.heap.size, 0, none⟩ 1 1 [.string ys, .slice ra gs.length rcap] (by rfl) (by rfl) (World.news_of_block (new_cells w4 _ _)) (by intro u hu; simp at hu; rcases hu with rfl | rfl <;> rfl) (by omega) (by unfold maxLen; omega) (by omega) (by simp; omega) (w4.heap.size + 1) (by simp) ?_
                  intro g cap w5 hown5 hgrow hat hlt5
                  have hrow : ∀ k, (Value.slice aF j cF).ownBlock = some k → wo.heap.size + 1 ≤ k ∧ k < wr.heap.size := hPF.out.1.lt
                  obtain ⟨hT5, hT6⟩ := block_set (off := 7) (u := .slice (some ⟨g, 0, none⟩) (j + 1) cap) hT.out hlT (hbF.trans (hb4'.mono hbF.size)) hgrow (by intro e; have := (hrow _ e).1; omega)
                  have hT5c := cells_at hT5
                  have hT5f := cells_free hT5
                  refine hK.out _ _ ?_ (fun hH2 => ?_)
                  · exact hH.grown hgrow (by intro e; have := (hrow _ e).2; omega)
                  clear hK K hH
                  have hH := hH2; clear hH2
                  (try simp only [List.getElem_toArray, List.getElem_cons_succ, List.getElem_cons_zero, Act.put, List.setIfInBounds_toArray, List.set_cons_zero, List.set_cons_succ])
                  refine wpAnyH_take (i := 10) (v := ?_) rfl (by kernel_rfl) (by kernel_rfl) (by kernel_rfl) (fun _ _ _ h => h) (Or.inl ⟨by rfl, ?_⟩) (by assumption) ?_
                  rotate_left; focus (intro w hSw; (try dsimp only at hSw); go_simp; try with_reducible rfl)
                  (try simp only [List.getElem_toArray, List.getElem_cons_succ, List.getElem_cons_zero, Act.put, List.setIfInBounds_toArray, List.set_cons_zero, List.set_cons_succ])
                  refine wpAnyH_ready (rs := [11]) (by kernel_rfl) (by simp) ?_
                  refine AllReadyH.cons rfl (fun K hK => ?_) ?_
                  · skip
                    go_simp
                    refine hK.out _ _ ?_ (fun hH2 => ?_)
                    · exact hH.set (by omega)
                    clear hK K hH
                    have hH := hH2; clear hH2
                    (try simp only [List.getElem_toArray, List.getElem_cons_succ, List.getElem_cons_zero, Act.put, List.setIfInBounds_toArray, List.set_cons_zero, List.set_cons_succ])
                    refine wpAnyH_done (by kernel_rfl) ?_ _
                    clear hH
                    have hfin := PF.next (u := .slice (some ⟨g, 0, none⟩) (j + 1) cap) hPF.out hjlt hy.out.2 hlT hbF hb4' hown.out hown5 hgrow hat
                    have hbn := below_next (B := wo.heap.size) (t := wo.heap.size) (off := 7) (u := .slice (some ⟨g, 0, none⟩) (j + 1) cap) hsw2 (hbF.trans (hb4'.mono hbF.size)) hgrow (fun k e => by have := (hrow k e).1; omega) (Nat.le_refl _)
                    have hbn2 := Lib.hid (hbel2.trans hbn)
                    replace hfin := Lib.hid hfin
                    replace hT6 := Lib.hid hT6
                    clear hbn hT5 hT5c hT5f hTc hTf hT4
                    go_wp2
                    go_roundw
                    case rel => exact ⟨j + 1, _, _, _, by omega, by go_num, hbn2.out, hT6, hfin⟩
                    case measure => simp [intOf]; omega
                  exact AllReadyH.nil
                exact AllReadyH.nil
              exact AllReadyH.nil
            exact AllReadyH.nil
          exact AllReadyH.nil
        · have hge : (fs.length : Int) ≤ (j : Int) := by omega
          obtain rfl : j = fs.length := by omega
          have hFs : FsAt (ValAt wr (rng wo.heap.size wr) (rng wo.heap.size wr) n) wr (rng wo.heap.size wr) aF fs.length cF fs := by
            have m : ∀ b o, rng (wo.heap.size + 1) wr b o → rng wo.heap.size wr b o := fun b _ hb => ⟨by have := hb.1; omega, hb.2⟩
            exact FsAt.mono m (fun _ _ _ _ hv => ValAt.mono m m hv) hPF.out.done
          have HFs := Lib.hid hFs
          have hA2 : ∀ o, wr.cell? ⟨w.heap.size + 1 + 1, o, none⟩ = #[.slice aV k cV][o]? := cells_at (heap_old hbel2 hl0 hy2.out)
          have hf2 : ∀ o, wr.frozen? ⟨w.heap.size + 1 + 1, o, none⟩ = false := cells_free (heap_old hbel2 hl0 hy2.out)
          have hTc := cells_at hT.out
          have hl5 : w.heap.size + 1 + 1 < wr.heap.size := by omega
          clear hFs hPF
          have hownz := Lib.hid (own_below (own_below hPT.out.1 hbel2) (bel1 wr (.cells #[.int .i64 xk, .int .i64 xl, .int .i64 xh, .string xs, .bool xa', .bool xm, .bool xo, .slice aF fs.length cF] 33)))
          have hrow : Hid (∀ k', (Value.slice aV k cV).ownBlock = some k' → w.heap.size + 3 ≤ k' ∧ k' < wo.heap.size) := hPT.out.1.lt
          go_wp2_with (at_builtin; refine wpList_append_lies _ (by rfl) _ _ 45 (by rfl) (w.heap.size + 3) 33 iT _ 8 72 Try.underlying45 HIT.out.1 HIT.out.2.1 HIT.out.2.2.1 HIT.out.2.2.2 (by rfl) (by decide) (.slice aV k cV) k zs (by rfl) hownz.out ⟨wr.heap.size, 0, none⟩ 1 1 (tcells ⟨xk, xl, xh, xs, xa', xm, xo⟩ aF fs.length cF) (by rfl) (by rfl) (World.news_of_block (new_cells wr _ _)) (by intro u hu; simp [tcells] at hu; rcases hu with rfl | rfl | rfl | rfl | rfl | rfl | rfl | rfl <;> rfl) (by omega) (by unfold maxLen; omega) (by omega) (by simp; omega) (wr.heap.size + 1) (by simp) ?_)
          intro g cap w5 hown5 hgrow hat hlt5
          obtain ⟨hO5, hO6⟩ := block_set (off := 0) (u := .slice (some ⟨g, 0, none⟩) (k + 1) cap) hy2.out hl0 hbel2 hgrow (by intro e; have := (hrow.out _ e).1; omega)
          have hO5c : ∀ o, w5.cell? ⟨w.heap.size + 1 + 1, o, none⟩ = #[.slice aV k cV][o]? := cells_at hO5
          have hO5f : ∀ o, w5.frozen? ⟨w.heap.size + 1 + 1, o, none⟩ = false := cells_free hO5
          have ho := onlyBut_of (t := w.heap.size + 2) (off := 0) (u := .slice (some ⟨g, 0, none⟩) (k + 1) cap) hbel2 hgrow
          have e0 := (ho.2 w.heap.size (by omega) (by omega) (by intro e; have := (hrow.out _ e).1; omega)).trans hy0.out
          have e1 := (ho.2 (w.heap.size + 1) (by omega) (by omega) (by intro e; have := (hrow.out _ e).1; omega)).trans hy1.out
          have hfin := PT.next (u := .slice (some ⟨g, 0, none⟩) (k + 1) cap) hPT.out hlt hx.out.2 hl0 hbel2 HFs.out hown5 hgrow hat
          have hbn := below_next (B := w.heap.size) (t := w.heap.size + 2) (off := 0) (u := .slice (some ⟨g, 0, none⟩) (k + 1) cap) hsw hbel2 hgrow (fun k' e => by have := (hrow.out k' e).1; omega) (by omega)
          replace hfin := Lib.hid hfin
          replace hO6 := Lib.hid hO6
          have hbn2 := Lib.hid (hbel.trans hbn)
          replace e0 := Lib.hid e0
          replace e1 := Lib.hid e1
          clear hO5 ho hbn hA2 hf2 hTc hA0
          go_wp2
          go_roundw
          case rel => exact ⟨k + 1, _, _, _, by omega, by go_num, hbn2.out, e0, e1, hO6, hfin⟩
          case measure => simp [intOf]; omega
    · have hge : (v.length : Int) ≤ (k : Int) := by omega
      obtain rfl : k = v.length := by omega
      have hV := Lib.hid hPT.out.done
      have hst := heap_setCell_same wr (w.heap.size + 1) 0 _ 47 (.slice aV v.length cV) hy1.out
      have hst2 := cells_at hst
      have HST := Lib.hid hst2
      have hl1 := lt_of_block hy1.out
      clear hst hst2
      go_wp2
      have hst := HST.out
      refine bodyPost_ret (v := .agg #[.slice aV v.length cV]) (by simp [results, Try.results49, go_sem, hst]) rfl ?_
      refine ⟨aV, cV, rfl, hbel.setCell (by show w.heap.size ≤ w.heap.size + 1; omega) _, ?_⟩
      have kk : Kept (rng (w.heap.size + 3) wr) (rng (w.heap.size + 3) wr) wr (wr.setCell ⟨w.heap.size + 1, 0, none⟩ (.slice aV v.length cV)) :=
        ⟨fun b _ hb o => cell_set_ne _ _ _ _ _ _ (Or.inl (by have := hb.1; omega)), fun b _ hb o => cell_set_ne _ _ _ _ _ _ (Or.inl (by have := hb.1; omega))⟩
      have m : ∀ b o, rng (w.heap.size + 3) wr b o → rng w.heap.size (wr.setCell ⟨w.heap.size + 1, 0, none⟩ (.slice aV v.length cV)) b o := fun b _ hb => ⟨by have := hb.1; omega, by rw [World.size_setCell]; exact hb.2⟩
      exact ValAt.mono m m (ValAt.kept kk hV.out)
theorem plain_zero : PlainOk 0 := by
  intro w B hB xa xn xc v hv _
  obtain rfl : xn = 0 := hv.1
  obtain rfl : v = [] := by cases v with | nil => rfl | cons x _ => exact Empty.elim x
  go_enter Try.func49, Try.ntmps49
  go_wp2
  go_loop [4] (fun i => i = .int .i64 0) (fun _ => 0)
  case atStart => rfl
  case round =>
    subst hrel
    go_wp2
    refine bodyPost_ret (v := .agg #[.slice none 0 0]) (by simp [results, Try.results49, go_sem]) rfl ?_
    refine ⟨none, 0, rfl, ?_, ⟨rfl, by unfold maxLen; omega, fun _ => rfl⟩⟩
    exact (bel2 _ _ _).alloc (by simp; omega) _
theorem plainOk : ∀ n, PlainOk n
  | 0 => plain_zero
  | n + 1 => plain_succ n (plainOk n)
end Go.Proofs.Ytigdibglkejciaa.Rank
