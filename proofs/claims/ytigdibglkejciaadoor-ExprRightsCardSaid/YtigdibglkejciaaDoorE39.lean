/-
  The law on what is right: the walk.
-/
import Derived.Test.YtigdibglkejciaaDoorE38
namespace Go.Proofs.YtigdibglkejciaaDoor.Ex
open Go.RowKit Go
set_option linter.unusedSimpArgs false

theorem up_world {n : Nat} {w W : World} {v : V7} {x : Ex n} (h : ExIn w w.heap.size n v x) (hb : Below w.heap.size w W) : ExIn W W.heap.size n v x := ExIn.mono hb.size n _ _ (ExIn.kept hb n _ _ h)
def All8 (M : Nat) (W : World) (e : Ending) (w' : World) : Prop := ∃ a c, e = .returned (.slice a M c) ∧ True ∧ Below W.heap.size W w'
set_option maxRecDepth 100000 in
set_option maxHeartbeats 16000000 in
theorem rights_walk (n : Nat) (w : World) (hW : Words w) (v u : V7) (x y : Ex n) (hx : ExIn w w.heap.size n v x) (hy : ExIn w w.heap.size n u y) : Calls Tryd.prog 5 #[.agg #[.int .i64 v.op, .int .i64 v.num, .string v.tx, .slice v.pa v.pl v.pc, .slice v.qa v.ql v.qc, .bool v.opn, .slice v.ka v.kl v.kc], .agg #[.int .i64 u.op, .int .i64 u.num, .string u.tx, .slice u.pa u.pl u.pc, .slice u.qa u.ql u.qc, .bool u.opn, .slice u.ka u.kl u.kc]] w fun e w' => e = .returned (.bool true) ∧ Below w.heap.size w w' := by
  have hp0 := hW.pos
  have hb1 : Below w.heap.size w ((w.alloc (.cells #[.int .i64 v.op, .int .i64 v.num, .string v.tx, .slice v.pa v.pl v.pc, .slice v.qa v.ql v.qc, .bool v.opn, .slice v.ka v.kl v.kc] 26)).alloc (.cells #[.int .i64 u.op, .int .i64 u.num, .string u.tx, .slice u.pa u.pl u.pc, .slice u.qa u.ql u.qc, .bool u.opn, .slice u.ka u.kl u.kc] 26)) := (bel1 _ _).trans ((bel1 _ _).mono (by simp))
  have NA := Lib.hid (Below.heap_alloc (w.alloc (.cells #[.int .i64 v.op, .int .i64 v.num, .string v.tx, .slice v.pa v.pl v.pc, .slice v.qa v.ql v.qc, .bool v.opn, .slice v.ka v.kl v.kc] 26)) (.cells #[.int .i64 u.op, .int .i64 u.num, .string u.tx, .slice u.pa u.pl u.pc, .slice u.qa u.ql u.qc, .bool u.opn, .slice u.ka u.kl u.kc] 26) w.heap.size (by simp) |>.trans (new_cells w #[.int .i64 v.op, .int .i64 v.num, .string v.tx, .slice v.pa v.pl v.pc, .slice v.qa v.ql v.qc, .bool v.opn, .slice v.ka v.kl v.kc] 26))
  have NU := Lib.hid (new_cells (w.alloc (.cells #[.int .i64 v.op, .int .i64 v.num, .string v.tx, .slice v.pa v.pl v.pc, .slice v.qa v.ql v.qc, .bool v.opn, .slice v.ka v.kl v.kc] 26)) #[.int .i64 u.op, .int .i64 u.num, .string u.tx, .slice u.pa u.pl u.pc, .slice u.qa u.ql u.qc, .bool u.opn, .slice u.ka u.kl u.kc] 26)
  rw [World.size_alloc] at NU
  have HF1 : Hid (∀ W, Below w.heap.size w W → Calls Tryd.prog 6 #[.agg #[.int .i64 v.op, .int .i64 v.num, .string v.tx, .slice v.pa v.pl v.pc, .slice v.qa v.ql v.qc, .bool v.opn, .slice v.ka v.kl v.kc]] W (FewPost n x W)) := Lib.hid (fun W h => few_any n W w.heap.size v x h.size (ExIn.kept h n _ _ hx))
  have HF2 : Hid (∀ W, Below w.heap.size w W → Calls Tryd.prog 6 #[.agg #[.int .i64 u.op, .int .i64 u.num, .string u.tx, .slice u.pa u.pl u.pc, .slice u.qa u.ql u.qc, .bool u.opn, .slice u.ka u.kl u.kc]] W (FewPost n y W)) := Lib.hid (fun W h => few_any n W w.heap.size u y h.size (ExIn.kept h n _ _ hy))
  have HAW : Hid (∀ W, Below w.heap.size w W → Calls Tryd.prog 7 #[] W fun e w' => e = .returned (.bool true) ∧ Below W.heap.size W w') := Lib.hid (fun W h => awake_any W (hW.below h hp0))
  have HX := Lib.hid hx
  have HY := Lib.hid hy
  have HW := Lib.hid hW
  have HB1 := Lib.hid hb1
  have hl0 : w.heap.size < ((w.alloc (.cells #[.int .i64 v.op, .int .i64 v.num, .string v.tx, .slice v.pa v.pl v.pc, .slice v.qa v.ql v.qc, .bool v.opn, .slice v.ka v.kl v.kc] 26)).alloc (.cells #[.int .i64 u.op, .int .i64 u.num, .string u.tx, .slice u.pa u.pl u.pc, .slice u.qa u.ql u.qc, .bool u.opn, .slice u.ka u.kl u.kc] 26)).heap.size := by simp; omega
  have hl1 : w.heap.size + 1 < ((w.alloc (.cells #[.int .i64 v.op, .int .i64 v.num, .string v.tx, .slice v.pa v.pl v.pc, .slice v.qa v.ql v.qc, .bool v.opn, .slice v.ka v.kl v.kc] 26)).alloc (.cells #[.int .i64 u.op, .int .i64 u.num, .string u.tx, .slice u.pa u.pl u.pc, .slice u.qa u.ql u.qc, .bool u.opn, .slice u.ka u.kl u.kc] 26)).heap.size := by simp
  have hw0 := hb1.size
  clear hx hy hW
  go_enter Tryd.func5, Tryd.ntmps5
  go_wp2_with (first
    | (go_at_call 6; (with_reducible refine (HF1.out _ HB1.out).mono ?_); rintro e w2 ⟨b1, rfl, hf1, hb2⟩; have hA : ∀ o, w2.cell? ⟨w.heap.size, o, none⟩ = #[.int .i64 v.op, .int .i64 v.num, .string v.tx, .slice v.pa v.pl v.pc, .slice v.qa v.ql v.qc, .bool v.opn, .slice v.ka v.kl v.kc][o]? := fun o => (hb2.cell (p := ⟨w.heap.size, o, none⟩) hl0).trans (cells_of NA.out o); have hU : ∀ o, w2.cell? ⟨w.heap.size + 1, o, none⟩ = #[.int .i64 u.op, .int .i64 u.num, .string u.tx, .slice u.pa u.pl u.pc, .slice u.qa u.ql u.qc, .bool u.opn, .slice u.ka u.kl u.kc][o]? := fun o => (hb2.cell (p := ⟨w.heap.size + 1, o, none⟩) hl1).trans (cells_of NU.out o); have HG1 := Lib.hid hf1; clear hf1; have hb12 := hb1.trans (hb2.mono hw0); have hs12 := hb12.size)
    | (go_at_call 6; (with_reducible refine (HF2.out _ hb12).mono ?_); rintro e w3 ⟨b2, rfl, hf2, hb3⟩; have HG2 := Lib.hid hf2; clear hf2; have hb13 := hb12.trans (hb3.mono hs12); have hs13 := hb13.size)
    | (go_at_call 7; (with_reducible refine (HAW.out _ (by with_reducible first | exact hb13 | exact hb12)).mono ?_); rintro e w4 ⟨rfl, hb4⟩))
  · go_ret
    exact ⟨rfl, hb13.trans (hb4.mono hs13)⟩
  · have hs := HG1.out (by assumption)
    have hA3 : ∀ o, w3.cell? ⟨w.heap.size, o, none⟩ = #[.int .i64 v.op, .int .i64 v.num, .string v.tx, .slice v.pa v.pl v.pc, .slice v.qa v.ql v.qc, .bool v.opn, .slice v.ka v.kl v.kc][o]? := fun o => (hb3.cell (p := ⟨w.heap.size, o, none⟩) (by have := hb2.size; show w.heap.size < _; omega)).trans (hA o)
    have hU3 : ∀ o, w3.cell? ⟨w.heap.size + 1, o, none⟩ = #[.int .i64 u.op, .int .i64 u.num, .string u.tx, .slice u.pa u.pl u.pc, .slice u.qa u.ql u.qc, .bool u.opn, .slice u.ka u.kl u.kc][o]? := fun o => (hb3.cell (p := ⟨w.heap.size + 1, o, none⟩) (by have := hb2.size; show w.heap.size + 1 < _; omega)).trans (hU o)
    have hq0 : w.heap.size < w3.heap.size := by have := hb2.size; have := hb3.size; omega
    have hq1 : w.heap.size + 1 < w3.heap.size := by have := hb2.size; have := hb3.size; omega
    obtain ⟨r, hr⟩ : ∃ r, rightE n x = r := ⟨_, rfl⟩
    obtain ⟨c, hc⟩ : ∃ c, checkE n x = c := ⟨_, rfl⟩
    obtain ⟨M, hM⟩ : ∃ M, (allE n x).length = M := ⟨_, rfl⟩
    obtain ⟨D, hD⟩ : ∃ D, depthE n x = D := ⟨_, rfl⟩
    obtain ⟨q, hq⟩ : ∃ q, sameE n x y = q := ⟨_, rfl⟩
    have C17 : Hid (∀ W, Below w.heap.size w W → Calls Tryd.prog 17 #[.agg #[.int .i64 v.op, .int .i64 v.num, .string v.tx, .slice v.pa v.pl v.pc, .slice v.qa v.ql v.qc, .bool v.opn, .slice v.ka v.kl v.kc]] W fun e w' => e = .returned (.bool r) ∧ Below W.heap.size W w') := Lib.hid (fun W h => hr ▸ right_ok n W w.heap.size v x 24 h.size (HW.out.below h hp0) hs.1 (ExIn.kept h n _ _ HX.out))
    have C18 : Hid (∀ W, Below w.heap.size w W → Calls Tryd.prog 18 #[.agg #[.int .i64 v.op, .int .i64 v.num, .string v.tx, .slice v.pa v.pl v.pc, .slice v.qa v.ql v.qc, .bool v.opn, .slice v.ka v.kl v.kc]] W fun e w' => e = .returned (.bool r) ∧ Below W.heap.size W w') := Lib.hid (fun W h => hr ▸ rightR_ok n W w.heap.size v x 24 h.size hs.1 (ExIn.kept h n _ _ HX.out))
    have C19 : Hid (∀ W, Below w.heap.size w W → Calls Tryd.prog 19 #[.agg #[.int .i64 v.op, .int .i64 v.num, .string v.tx, .slice v.pa v.pl v.pc, .slice v.qa v.ql v.qc, .bool v.opn, .slice v.ka v.kl v.kc]] W fun e w' => e = .returned (.int .i64 c) ∧ Below W.heap.size W w') := Lib.hid (fun W h => hc ▸ check_any n W w.heap.size v x 24 h.size (by omega) (HW.out.below h hp0) hs.1 (ExIn.kept h n _ _ HX.out))
    have C20 : Hid (∀ W, Below w.heap.size w W → Calls Tryd.prog 20 #[.agg #[.int .i64 v.op, .int .i64 v.num, .string v.tx, .slice v.pa v.pl v.pc, .slice v.qa v.ql v.qc, .bool v.opn, .slice v.ka v.kl v.kc]] W fun e w' => e = .returned (.int .i64 c) ∧ Below W.heap.size W w') := Lib.hid (fun W h => hc ▸ checkR_any n W w.heap.size v x 24 h.size (by omega) hs.1 (ExIn.kept h n _ _ HX.out))
    have C21 : Hid (∀ W, Below w.heap.size w W → Calls Tryd.prog 21 #[.agg #[.int .i64 v.op, .int .i64 v.num, .string v.tx, .slice v.pa v.pl v.pc, .slice v.qa v.ql v.qc, .bool v.opn, .slice v.ka v.kl v.kc]] W fun e w' => e = .returned (.int .i64 (M : Nat)) ∧ Below W.heap.size W w') := Lib.hid (fun W h => hM ▸ size_any n W v x 24 hs.1 hs.2 (up_world HX.out h))
    have C22 : Hid (∀ W, Below w.heap.size w W → Calls Tryd.prog 22 #[.agg #[.int .i64 v.op, .int .i64 v.num, .string v.tx, .slice v.pa v.pl v.pc, .slice v.qa v.ql v.qc, .bool v.opn, .slice v.ka v.kl v.kc]] W fun e w' => e = .returned (.int .i64 (D : Nat)) ∧ Below W.heap.size W w') := Lib.hid (fun W h => hD ▸ depth_ok n W w.heap.size v x 24 h.size (by omega) hs.1 (ExIn.kept h n _ _ HX.out))
    have C23 : Hid (∀ W, Below w.heap.size w W → Calls Tryd.prog 23 #[.agg #[.int .i64 v.op, .int .i64 v.num, .string v.tx, .slice v.pa v.pl v.pc, .slice v.qa v.ql v.qc, .bool v.opn, .slice v.ka v.kl v.kc]] W fun e w' => e = .returned (.int .i64 (D : Nat)) ∧ Below W.heap.size W w') := Lib.hid (fun W h => hD ▸ depthR_ok n W w.heap.size v x 24 h.size (by omega) hs.1 (ExIn.kept h n _ _ HX.out))
    have C24 : Hid (∀ W, Below w.heap.size w W → Calls Tryd.prog 24 #[.agg #[.int .i64 v.op, .int .i64 v.num, .string v.tx, .slice v.pa v.pl v.pc, .slice v.qa v.ql v.qc, .bool v.opn, .slice v.ka v.kl v.kc], .agg #[.int .i64 u.op, .int .i64 u.num, .string u.tx, .slice u.pa u.pl u.pc, .slice u.qa u.ql u.qc, .bool u.opn, .slice u.ka u.kl u.kc]] W fun e w' => e = .returned (.bool q) ∧ Below W.heap.size W w') := Lib.hid (fun W h => hq ▸ same_ok n W w.heap.size v u x y h.size (ExIn.kept h n _ _ HX.out) (ExIn.kept h n _ _ HY.out))
    have C10 : Hid (∀ W, Below w.heap.size w W → Calls Tryd.prog 10 #[.agg #[.int .i64 v.op, .int .i64 v.num, .string v.tx, .slice v.pa v.pl v.pc, .slice v.qa v.ql v.qc, .bool v.opn, .slice v.ka v.kl v.kc], .agg #[.int .i64 u.op, .int .i64 u.num, .string u.tx, .slice u.pa u.pl u.pc, .slice u.qa u.ql u.qc, .bool u.opn, .slice u.ka u.kl u.kc]] W fun e w' => e = .returned (.bool q) ∧ Below W.heap.size W w') := Lib.hid (fun W h => hq ▸ sameR_ok n W w.heap.size v u x y h.size (ExIn.kept h n _ _ HX.out) (ExIn.kept h n _ _ HY.out))
    have C8 : Hid (∀ W, Below w.heap.size w W → Calls Tryd.prog 8 #[.agg #[.int .i64 v.op, .int .i64 v.num, .string v.tx, .slice v.pa v.pl v.pc, .slice v.qa v.ql v.qc, .bool v.opn, .slice v.ka v.kl v.kc]] W (All8 M W)) := Lib.hid (fun W h => (all_ok n W w.heap.size v x 24 h.size hs.1 hs.2 (ExIn.kept h n _ _ HX.out)).mono (fun e w' hh => by obtain ⟨a, c, e1, e2, e3⟩ := hh; rw [hM] at e1; exact ⟨a, c, e1, trivial, e3⟩))
    have hbX := Lib.hid hb13
    have hsX := hb13.size
    have hS := SB.refl w3
    clear hA hU hb1 hb2 hb3 hb12 hb13 hs12 hs13 hr hc hM hD hq hs hl0 hl1 hw0 HB1 HF1 HF2 HX HY HW NA NU HG1 HG2
    go_region_held3 (SB w3) (first | (with_reducible assumption) | (with_reducible exact SB.drew (by assumption)) | (with_reducible exact SB.below (by assumption) (by assumption))) (first | (go_at_call 7; (with_reducible refine (HAW.out _ (hbX.out.trans ((by assumption : SB w3 _).2.mono hsX))).mono ?_); rintro e w4 ⟨rfl, hb4⟩) | (go_at_call 17; (with_reducible refine (C17.out _ (hbX.out.trans ((by assumption : SB w3 _).2.mono hsX))).mono ?_); rintro e w4 ⟨rfl, hb4⟩) | (go_at_call 18; (with_reducible refine (C18.out _ (hbX.out.trans ((by assumption : SB w3 _).2.mono hsX))).mono ?_); rintro e w4 ⟨rfl, hb4⟩) | (go_at_call 19; (with_reducible refine (C19.out _ (hbX.out.trans ((by assumption : SB w3 _).2.mono hsX))).mono ?_); rintro e w4 ⟨rfl, hb4⟩) | (go_at_call 20; (with_reducible refine (C20.out _ (hbX.out.trans ((by assumption : SB w3 _).2.mono hsX))).mono ?_); rintro e w4 ⟨rfl, hb4⟩) | (go_at_call 21; (with_reducible refine (C21.out _ (hbX.out.trans ((by assumption : SB w3 _).2.mono hsX))).mono ?_); rintro e w4 ⟨rfl, hb4⟩) | (go_at_call 8; (with_reducible refine (C8.out _ (hbX.out.trans ((by assumption : SB w3 _).2.mono hsX))).mono ?_); rintro e w4 ⟨a8, c8, rfl, -, hb4⟩) | (go_at_call 22; (with_reducible refine (C22.out _ (hbX.out.trans ((by assumption : SB w3 _).2.mono hsX))).mono ?_); rintro e w4 ⟨rfl, hb4⟩) | (go_at_call 23; (with_reducible refine (C23.out _ (hbX.out.trans ((by assumption : SB w3 _).2.mono hsX))).mono ?_); rintro e w4 ⟨rfl, hb4⟩) | (go_at_call 24; (with_reducible refine (C24.out _ (hbX.out.trans ((by assumption : SB w3 _).2.mono hsX))).mono ?_); rintro e w4 ⟨rfl, hb4⟩) | (go_at_call 10; (with_reducible refine (C10.out _ (hbX.out.trans ((by assumption : SB w3 _).2.mono hsX))).mono ?_); rintro e w4 ⟨rfl, hb4⟩))
    go_wp2
    go_ret
    exact ⟨rfl, hbX.out.trans ((by assumption : SB w3 _).2.mono hsX)⟩
  · go_ret
    exact ⟨rfl, hb12.trans (hb4.mono hs12)⟩
end Go.Proofs.YtigdibglkejciaaDoor.Ex
