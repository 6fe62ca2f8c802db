/-
  Two expressions: are they the same? In the program.
-/
import Derived.Test.YtigdibglkejciaaDoorE24
namespace Go.Proofs.YtigdibglkejciaaDoor.Ex
open Go.RowKit Go
set_option linter.unusedSimpArgs false

set_option maxRecDepth 100000 in
set_option maxHeartbeats 16000000 in
theorem same_succ (n : Nat) (HD : Hid (SameOk n)) : SameOk (n + 1) := by
  intro w B v u x y hB hx hy
  obtain ⟨vop, vnum, vtx, vpa, vpl, vpc, vqa, vql, vqc, vopn, vka, vkl, vkc⟩ := v
  obtain ⟨uop, unum, utx, upa, upl, upc, uqa, uql, uqc, uopn, uka, ukl, ukc⟩ := u
  obtain ⟨hop, hnum, htx, hopn, hps, hqs, hks⟩ := hx
  obtain ⟨gop, gnum, gtx, gopn, gps, gqs, gks⟩ := hy
  simp only at hop hnum htx hopn hps hqs hks gop gnum gtx gopn gps gqs gks ⊢
  have S : Hid (sameE (n + 1) x y = (((((vop == uop) && (vnum == unum)) && strEq vtx utx) && (vopn == uopn)) && eqL strEq x.2.1 y.2.1 && eqL (sameQ n) x.2.2.1 y.2.2.1 && eqL (sameE n) x.2.2.2 y.2.2.2)) := Lib.hid (by rw [sameE_succ, hop, gop, hnum, gnum, htx, gtx, hopn, gopn]; rfl)
  have hb1 : Below w.heap.size w ((w.alloc (.cells #[.int .i64 vop, .int .i64 vnum, .string vtx, .slice vpa vpl vpc, .slice vqa vql vqc, .bool vopn, .slice vka vkl vkc] 26)).alloc (.cells #[.int .i64 uop, .int .i64 unum, .string utx, .slice upa upl upc, .slice uqa uql uqc, .bool uopn, .slice uka ukl ukc] 26)) := (bel1 _ _).trans ((bel1 _ _).mono (by simp))
  have NA := Lib.hid (Below.heap_alloc (w.alloc (.cells #[.int .i64 vop, .int .i64 vnum, .string vtx, .slice vpa vpl vpc, .slice vqa vql vqc, .bool vopn, .slice vka vkl vkc] 26)) (.cells #[.int .i64 uop, .int .i64 unum, .string utx, .slice upa upl upc, .slice uqa uql uqc, .bool uopn, .slice uka ukl ukc] 26) w.heap.size (by simp) |>.trans (new_cells w #[.int .i64 vop, .int .i64 vnum, .string vtx, .slice vpa vpl vpc, .slice vqa vql vqc, .bool vopn, .slice vka vkl vkc] 26))
  have NU := Lib.hid (new_cells (w.alloc (.cells #[.int .i64 vop, .int .i64 vnum, .string vtx, .slice vpa vpl vpc, .slice vqa vql vqc, .bool vopn, .slice vka vkl vkc] 26)) #[.int .i64 uop, .int .i64 unum, .string utx, .slice upa upl upc, .slice uqa uql uqc, .bool uopn, .slice uka ukl ukc] 26)
  rw [World.size_alloc] at NU
  obtain ⟨w1, hw1⟩ : ∃ w1, (w.alloc (.cells #[.int .i64 vop, .int .i64 vnum, .string vtx, .slice vpa vpl vpc, .slice vqa vql vqc, .bool vopn, .slice vka vkl vkc] 26)).alloc (.cells #[.int .i64 uop, .int .i64 unum, .string utx, .slice upa upl upc, .slice uqa uql uqc, .bool uopn, .slice uka ukl ukc] 26) = w1 := ⟨_, rfl⟩
  have hs1 : w1.heap.size = w.heap.size + 1 + 1 := by rw [← hw1]; simp
  rw [hw1] at hb1 NA NU
  have HC : Hid (Calls Tryd.prog 42 #[.slice vpa vpl vpc, .slice upa upl upc] w1 fun e w' => e = .returned (.bool (eqL strEq x.2.1 y.2.1)) ∧ Below w1.heap.size w1 w') := by
    have h1 := hps.kept (hb1.mono hB)
    have h2 := gps.kept (hb1.mono hB)
    rw [hps.1] at h1 ⊢
    rw [gps.1] at h2 ⊢
    exact Lib.hid (strs_same B vpa upa vpc upc x.2.1 y.2.1 w1 (by omega) h1 h2)
  have HP : Hid (∀ W, Below w1.heap.size w1 W → Calls Tryd.prog 43 #[.slice vqa vql vqc, .slice uqa uql uqc, .func (.func 44) #[] #[]] W fun e w' => e = .returned (.bool (eqL (sameQ n) x.2.2.1 y.2.2.1)) ∧ Below W.heap.size W w') :=
    Lib.hid (fun W hW => pairs_same n HD W B _ _ _ _ _ _ _ _ (by have := hW.size; omega) (PairsIn.kept hqs (hb1.trans (hW.mono (by omega))) hB) (PairsIn.kept gqs (hb1.trans (hW.mono (by omega))) hB))
  have HKK : Hid (∀ W, Below w1.heap.size w1 W → Calls Tryd.prog 45 #[.slice vka vkl vkc, .slice uka ukl ukc, .func (.func 24) #[] #[]] W fun e w' => e = .returned (.bool (eqL (sameE n) x.2.2.2 y.2.2.2)) ∧ Below W.heap.size W w') :=
    Lib.hid (fun W hW => kids_same n HD W B _ _ _ _ _ _ _ _ (by have := hW.size; omega) (KidsIn.kept hks (hb1.trans (hW.mono (by omega))) hB) (KidsIn.kept gks (hb1.trans (hW.mono (by omega))) hB))
  have HW1 := Lib.hid hw1
  have hl0 : w.heap.size < w1.heap.size := by omega
  have hl1 : w.heap.size + 1 < w1.heap.size := by omega
  have hw0 : w.heap.size ≤ w1.heap.size := by omega
  clear hop hnum htx hopn hps hqs hks gop gnum gtx gopn gps gqs gks hs1 hw1
  by_cases e1 : vop = uop
  rotate_left
  · have hR : Hid (sameE (n + 1) x y = false) := Lib.hid (by rw [S.out]; simp [e1])
    have e1' : ((vop : Int) == uop) = false := by simpa using e1
    clear e1
    go_enter Tryd.func24, Tryd.ntmps24
    go_wp2
    go_ret
    exact ⟨ret_bool hR.out.symm, by rw [HW1.out]; exact hb1⟩
  subst e1
  by_cases e2 : vnum = unum
  rotate_left
  · have hR : Hid (sameE (n + 1) x y = false) := Lib.hid (by rw [S.out]; simp [e2])
    have e2' : ((vnum : Int) == unum) = false := by simpa using e2
    clear e2
    go_enter Tryd.func24, Tryd.ntmps24
    go_wp2
    go_ret
    exact ⟨ret_bool hR.out.symm, by rw [HW1.out]; exact hb1⟩
  subst e2
  cases e3 : (vtx.toList == utx.toList)
  · have hR : Hid (sameE (n + 1) x y = false) := Lib.hid (by rw [S.out]; simp [strEq, e3])
    go_enter Tryd.func24, Tryd.ntmps24
    go_wp2
    go_ret
    exact ⟨ret_bool hR.out.symm, by rw [HW1.out]; exact hb1⟩
  by_cases e4 : vopn = uopn
  rotate_left
  · have hR : Hid (sameE (n + 1) x y = false) := Lib.hid (by rw [S.out]; simp [e4])
    cases vopn <;> cases uopn
    · exact absurd rfl e4
    · clear e4
      go_enter Tryd.func24, Tryd.ntmps24
      go_wp2
      go_ret
      exact ⟨ret_bool hR.out.symm, by rw [HW1.out]; exact hb1⟩
    · clear e4
      go_enter Tryd.func24, Tryd.ntmps24
      go_wp2
      go_ret
      exact ⟨ret_bool hR.out.symm, by rw [HW1.out]; exact hb1⟩
    · exact absurd rfl e4
  subst e4
  have hS2 : Hid (strEq vtx utx = true) := Lib.hid e3
  generalize eqL strEq x.2.1 y.2.1 = b5 at HC S
  generalize eqL (sameQ n) x.2.2.1 y.2.2.1 = b6 at HP S
  generalize eqL (sameE n) x.2.2.2 y.2.2.2 = b7 at HKK S
  rw [← HW1.out] at HC
  cases b5
  · have hR : Hid (sameE (n + 1) x y = false) := Lib.hid (by rw [S.out, hS2.out]; simp)
    go_enter Tryd.func24, Tryd.ntmps24
    go_wp2_with (first | (go_at_call 42; (with_reducible refine HC.out.mono ?_); rintro e w2 ⟨rfl, hb2⟩; rw [HW1.out] at hb2; have hAw2 : ∀ o, w2.cell? ⟨w.heap.size, o, none⟩ = #[.int .i64 vop, .int .i64 vnum, .string vtx, .slice vpa vpl vpc, .slice vqa vql vqc, .bool vopn, .slice vka vkl vkc][o]? := fun o => (hb2.cell (p := ⟨w.heap.size, o, none⟩) hl0).trans (cells_of NA.out o); have hUw2 : ∀ o, w2.cell? ⟨w.heap.size + 1, o, none⟩ = #[.int .i64 vop, .int .i64 vnum, .string utx, .slice upa upl upc, .slice uqa uql uqc, .bool vopn, .slice uka ukl ukc][o]? := fun o => (hb2.cell (p := ⟨w.heap.size + 1, o, none⟩) hl1).trans (cells_of NU.out o)))
    go_ret
    exact ⟨ret_bool hR.out.symm, hb1.trans (hb2.mono hw0)⟩
  cases b6
  · have hR : Hid (sameE (n + 1) x y = false) := Lib.hid (by rw [S.out, hS2.out]; simp)
    go_enter Tryd.func24, Tryd.ntmps24
    go_wp2_with (first | (go_at_call 42; (with_reducible refine HC.out.mono ?_); rintro e w2 ⟨rfl, hb2⟩; rw [HW1.out] at hb2; have hAw2 : ∀ o, w2.cell? ⟨w.heap.size, o, none⟩ = #[.int .i64 vop, .int .i64 vnum, .string vtx, .slice vpa vpl vpc, .slice vqa vql vqc, .bool vopn, .slice vka vkl vkc][o]? := fun o => (hb2.cell (p := ⟨w.heap.size, o, none⟩) hl0).trans (cells_of NA.out o); have hUw2 : ∀ o, w2.cell? ⟨w.heap.size + 1, o, none⟩ = #[.int .i64 vop, .int .i64 vnum, .string utx, .slice upa upl upc, .slice uqa uql uqc, .bool vopn, .slice uka ukl ukc][o]? := fun o => (hb2.cell (p := ⟨w.heap.size + 1, o, none⟩) hl1).trans (cells_of NU.out o)) | (go_at_call 43; (with_reducible refine (HP.out _ hb2).mono ?_); rintro e w3 ⟨rfl, hb3⟩; have hb13 := hb2.trans (hb3.mono hb2.size); have hAw3 : ∀ o, w3.cell? ⟨w.heap.size, o, none⟩ = #[.int .i64 vop, .int .i64 vnum, .string vtx, .slice vpa vpl vpc, .slice vqa vql vqc, .bool vopn, .slice vka vkl vkc][o]? := fun o => (hb13.cell (p := ⟨w.heap.size, o, none⟩) hl0).trans (cells_of NA.out o); have hUw3 : ∀ o, w3.cell? ⟨w.heap.size + 1, o, none⟩ = #[.int .i64 vop, .int .i64 vnum, .string utx, .slice upa upl upc, .slice uqa uql uqc, .bool vopn, .slice uka ukl ukc][o]? := fun o => (hb13.cell (p := ⟨w.heap.size + 1, o, none⟩) hl1).trans (cells_of NU.out o)))
    go_ret
    exact ⟨ret_bool hR.out.symm, hb1.trans (hb13.mono hw0)⟩
  · have hR : Hid (sameE (n + 1) x y = b7) := Lib.hid (by rw [S.out, hS2.out]; simp)
    go_enter Tryd.func24, Tryd.ntmps24
    go_wp2_with (first | (go_at_call 42; (with_reducible refine HC.out.mono ?_); rintro e w2 ⟨rfl, hb2⟩; rw [HW1.out] at hb2; have hAw2 : ∀ o, w2.cell? ⟨w.heap.size, o, none⟩ = #[.int .i64 vop, .int .i64 vnum, .string vtx, .slice vpa vpl vpc, .slice vqa vql vqc, .bool vopn, .slice vka vkl vkc][o]? := fun o => (hb2.cell (p := ⟨w.heap.size, o, none⟩) hl0).trans (cells_of NA.out o); have hUw2 : ∀ o, w2.cell? ⟨w.heap.size + 1, o, none⟩ = #[.int .i64 vop, .int .i64 vnum, .string utx, .slice upa upl upc, .slice uqa uql uqc, .bool vopn, .slice uka ukl ukc][o]? := fun o => (hb2.cell (p := ⟨w.heap.size + 1, o, none⟩) hl1).trans (cells_of NU.out o)) | (go_at_call 43; (with_reducible refine (HP.out _ hb2).mono ?_); rintro e w3 ⟨rfl, hb3⟩; have hb13 := hb2.trans (hb3.mono hb2.size); have hAw3 : ∀ o, w3.cell? ⟨w.heap.size, o, none⟩ = #[.int .i64 vop, .int .i64 vnum, .string vtx, .slice vpa vpl vpc, .slice vqa vql vqc, .bool vopn, .slice vka vkl vkc][o]? := fun o => (hb13.cell (p := ⟨w.heap.size, o, none⟩) hl0).trans (cells_of NA.out o); have hUw3 : ∀ o, w3.cell? ⟨w.heap.size + 1, o, none⟩ = #[.int .i64 vop, .int .i64 vnum, .string utx, .slice upa upl upc, .slice uqa uql uqc, .bool vopn, .slice uka ukl ukc][o]? := fun o => (hb13.cell (p := ⟨w.heap.size + 1, o, none⟩) hl1).trans (cells_of NU.out o)) | (go_at_call 45; (with_reducible refine (HKK.out _ hb13).mono ?_); rintro e w4 ⟨rfl, hb4⟩; have hb14 := hb13.trans (hb4.mono hb13.size)))
    go_ret
    exact ⟨ret_bool hR.out.symm, hb1.trans (hb14.mono hw0)⟩
theorem same_ok : ∀ n, SameOk n
  | 0 => fun _ _ _ _ x => x.elim
  | n + 1 => same_succ n (Lib.hid (same_ok n))
end Go.Proofs.YtigdibglkejciaaDoor.Ex
