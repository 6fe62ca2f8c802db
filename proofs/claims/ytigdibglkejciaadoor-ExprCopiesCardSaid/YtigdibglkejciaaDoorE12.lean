/-
  Parts of an expression: the reference's walk.
-/
import Derived.Test.YtigdibglkejciaaDoorE11
namespace Go.Proofs.YtigdibglkejciaaDoor.Ex
open Go.RowKit Go
set_option linter.unusedSimpArgs false

theorem own_below {w w' : World} {base : Nat} {T : TypeId} {size n : Nat} {V : Value} {xs : List Value} (h : w.ownsRow base T size V n xs) (hb : Below w.heap.size w w') : w'.ownsRow base T size V n xs := by
  refine h.kept (row := none) ⟨hb.os, hb.tape, hb.output, hb.size, fun i hi _ => hb.block i hi⟩ ?_
  by_cases e : V.ownBlock = none
  · exact Or.inl e
  · exact Or.inr e
set_option maxRecDepth 100000 in
set_option maxHeartbeats 8000000 in
theorem partsR_any (n : Nat) (w : World) (B : Nat) (v : V7) (x : Ex (n + 1)) (hB : B ≤ w.heap.size) (hx : ExIn w B (n + 1) v x) (hq : x.2.2.1.length ≤ 200) :
    Calls Tryd.prog 27 #[.agg #[.int .i64 v.op, .int .i64 v.num, .string v.tx, .slice v.pa v.pl v.pc, .slice v.qa v.ql v.qc, .bool v.opn, .slice v.ka v.kl v.kc]] w (PartsPost n B x w) := by
  obtain ⟨vop, vnum, vtx, vpa, vpl, vpc, vqa, vql, vqc, vopn, vka, vkl, vkc⟩ := v
  obtain ⟨hop, -, -, -, -, hqs, hks⟩ := hx
  simp only at hop hqs hks ⊢
  have LQ := Lib.hid hqs.1
  have LK := Lib.hid hks.1
  have HQ := Lib.hid hqs
  have HK := Lib.hid hks
  have hb1 := bel1 w (.cells #[.int .i64 vop, .int .i64 vnum, .string vtx, .slice vpa vpl vpc, .slice vqa vql vqc, .bool vopn, .slice vka vkl vkc] 26)
  by_cases h10 : vop = 10
  · have hP : Hid (partsE n x = x.2.2.1.map (·.2)) := Lib.hid (by unfold partsE; rw [if_pos (hop ▸ h10)])
    have e10 : ((vop : Int) != 10) = false := by simp [h10]
    obtain ⟨i0, hi0, z0, z1, z2⟩ := info_parts info26
    have HI := Lib.hid (show Tryd.prog.info? 26 = some i0 ∧ i0.zero = _ ∧ i0.size = 7 ∧ i0.bytes = 112 from ⟨hi0, z0, z1, z2⟩)
    have HBX := Lib.hid (new_cells w #[.int .i64 vop, .int .i64 vnum, .string vtx, .slice vpa vpl vpc, .slice vqa vql vqc, .bool vopn, .slice vka vkl vkc] 26)
    clear hqs hks hop h10 hi0 z0 z1 z2
    go_enter Tryd.func27, Tryd.ntmps27
    go_wp2
    generalize w.alloc (.cells #[.int .i64 vop, .int .i64 vnum, .string vtx, .slice vpa vpl vpc, .slice vqa vql vqc, .bool vopn, .slice vka vkl vkc] 26) = w1 at hb1 HBX ⊢
    have hs1 := hb1.size
    have hbl : w.heap.size < w1.heap.size := (Array.getElem?_eq_some_iff.1 HBX.out).1
    go_loopw [3, 4] (fun o i wr => ∃ (k : Nat) (oa : Option Addr) (oc : Nat) (vs : List V7), k ≤ vql ∧ i = .int .i64 k ∧ o = .slice oa k oc ∧ Below w1.heap.size w1 wr ∧ Hid (wr.ownsRow w1.heap.size 26 7 (.slice oa k oc) k (vcells vs)) ∧ Hid (vs.length = k ∧ ∀ i (h1 : i < vs.length) (h2 : i < x.2.2.1.length), ExIn w B n vs[i] (x.2.2.1[i]).2)) (fun _ i _ => vql - (intOf i).toNat)
    case atStart => exact ⟨0, none, 0, [], Nat.zero_le _, rfl, rfl, Below.refl _ _, World.ownsRow_nil _ _ _ _, rfl, fun i h => absurd h (by simp)⟩
    case round =>
      obtain ⟨k, oa, oc, vs, hk, rfl, rfl, hbel, hrow, hvs⟩ := hrel
      have hs2 := hbel.size
      have hb : ∀ o, wr.cell? ⟨w.heap.size, o, none⟩ = #[.int .i64 vop, .int .i64 vnum, .string vtx, .slice vpa vpl vpc, .slice vqa vql vqc, .bool vopn, .slice vka vkl vkc][o]? := fun o => (hbel.cell (p := ⟨w.heap.size, o, none⟩) hbl).trans (cells_of HBX.out o)
      by_cases hlt : k < vql
      · have i1 : (0 : Int) ≤ (k : Int) := by omega
        have i2 : (k : Int) < (vql : Int) := by omega
        have hq2 : vql ≤ 200 := by have := LQ.out; omega
        obtain ⟨g, off, rfl, hg, hc⟩ := HQ.out.2.2 (by have := LQ.out; omega)
        obtain ⟨v', _, hE, hI⟩ := hc k (by have := LQ.out; omega)
        have hbw : Below w.heap.size w wr := hb1.trans (hbel.mono hs1)
        obtain ⟨d0, d1, d2, d3, d4, d5, d6⟩ := hE.kept (W' := wr) (fun o => hbw.cell (p := ⟨g, o, none⟩) (by show g < w.heap.size; omega))
        have HN : Hid ((vs ++ [v']).length = k + 1 ∧ ∀ i (h1 : i < (vs ++ [v']).length) (h2 : i < x.2.2.1.length), ExIn w B n (vs ++ [v'])[i] (x.2.2.1[i]).2) := Lib.hid ⟨by simp [hvs.out.1], fun i h1 h2 => by
          by_cases hi : i < vs.length
          · rw [List.getElem_append_left hi]; exact hvs.out.2 i hi h2
          · have hik : i = vs.length := by simp at h1; omega
            subst hik
            rw [List.getElem_append_right (Nat.le_refl _)]
            simp only [Nat.sub_self, List.getElem_cons_zero]
            have := hvs.out.1
            subst this
            exact hI⟩
        clear hc hE hI hbw hvs
        go_wp2_with (at_builtin; refine wpList_append_lies _ (by rfl) _ _ 24 (by rfl) w1.heap.size 26 i0 _ 7 112 Tryd.underlying24 HI.out.1 HI.out.2.1 HI.out.2.2.1 HI.out.2.2.2 (by rfl) (by decide) (.slice oa k oc) k (vcells vs) (by rfl) (own_below hrow.out (bel1 _ _)) ⟨wr.heap.size, 0, none⟩ 1 1 v'.cells (by rfl) (by rfl) (World.news_of_block (new_cells wr _ _)) (by intro u hu; simp [V7.cells] at hu; rcases hu with rfl | rfl | rfl | rfl | rfl | rfl | rfl <;> rfl) (by omega) (by unfold maxLen; omega) (by omega) (by simp; omega) (wr.heap.size + 1) (by simp) ?_)
        intro g' cap' w2 hown hgrow hat hlt1
        have hrl : ∀ b, (Value.slice oa k oc).ownBlock = some b → w1.heap.size ≤ b := fun b e => (hrow.out.lt b e).1
        have hb2 : Below w1.heap.size w1 w2 := (hbel.alloc hs2 _).grown hgrow (by simp; omega) hrl
        have HO := Lib.hid hown
        clear hown hgrow hat
        go_wp2
        go_roundw
        case rel => exact ⟨k + 1, some ⟨g', 0, none⟩, cap', vs ++ [v'], by omega, by go_num, rfl, hb2, Lib.hid (by rw [vcells_snoc]; exact HO.out), HN⟩
        case measure => simp [intOf]; omega
      · have hge : (vql : Int) ≤ (k : Int) := by omega
        have hkq : k = vql := by omega
        have hbw : Below w.heap.size w wr := hb1.trans (hbel.mono hs1)
        have hpl : Hid ((partsE n x).length = k) := Lib.hid (by rw [hP.out, List.length_map]; have := LQ.out; omega)
        have HF : Hid (KidsIn (ExIn wr B n) wr wr.heap.size oa k (partsE n x)) := Lib.hid (KidsIn.of_row hrow.out (by rw [hpl.out]; exact hvs.out.1) hpl.out.symm (by rw [hpl.out]; have := LQ.out; unfold maxLen; omega) (fun i h1 h2 => by
          have h3 : i < x.2.2.1.length := by rw [hP.out, List.length_map] at h2; exact h2
          have := ExIn.kept (hbw.mono hB) n _ _ (hvs.out.2 i h1 h3)
          simpa [hP.out] using this))
        have HPL : Hid (PlaceIn B w wr oa k) := Lib.hid (PlaceIn.of_row hrow.out hs1)
        clear hkq hvs hrow
        go_wp2
        go_ret
        exact ⟨oa, oc, (by rw [hpl.out] : Ending.returned (.slice oa k oc) = .returned (.slice oa (partsE n x).length oc)), hbw, by rw [hpl.out]; exact HF.out, by rw [hpl.out]; exact HPL.out⟩
  · have hP : Hid (partsE n x = x.2.2.2) := Lib.hid (by unfold partsE; rw [if_neg (fun h => h10 (hop.trans h))])
    have e10 : ((vop : Int) != 10) = true := by simpa using h10
    clear hqs hks hop h10
    go_enter Tryd.func27, Tryd.ntmps27
    go_wp2
    go_ret
    have hF := KidsIn.up HK.out (hb1.mono hB) (by have := hb1.size; omega)
    have hl : (partsE n x).length = vkl := by rw [hP.out, LK.out]
    exact ⟨vka, vkc, (by rw [hl] : Ending.returned (.slice vka vkl vkc) = .returned (.slice vka (partsE n x).length vkc)), hb1, by rw [hl, hP.out]; exact hF, by rw [hl]; exact PlaceIn.of_kids HK.out _ _⟩
end Go.Proofs.YtigdibglkejciaaDoor.Ex
