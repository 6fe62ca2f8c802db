/-
  The law on copies: the walk.
-/
import Derived.Test.YtigdibglkejciaaDoorE48
import Derived.Test.YtigdibglkejciaaDoorE50
namespace Go.Proofs.YtigdibglkejciaaDoor.Ex
open Go.RowKit Go
set_option linter.unusedSimpArgs false

theorem eqL_self {α : Type} (f : α → α → Bool) : ∀ l : List α, (∀ x ∈ l, f x x = true) → eqL f l l = true
  | [], _ => rfl
  | x :: l, h => by simp only [eqL]; rw [h x (by simp), eqL_self f l (fun y hy => h y (by simp [hy]))]; rfl
theorem sameE_self : ∀ (n : Nat) (x : Ex n), sameE n x x = true
  | 0, x => x.elim
  | n + 1, x => by
    rw [sameE_succ, eqL_self strEq _ (fun s _ => by simp [strEq]), eqL_self (sameQ n) _ (fun p _ => by simp [sameQ, strEq, sameE_self n p.2]), eqL_self (sameE n) _ (fun y _ => sameE_self n y)]
    simp [sameP, strEq]
/-- A copy is the same as what it was copied from. -/
theorem same_self (n : Nat) (W : World) (v u : V7) (x : Ex n) (hv : ExIn W W.heap.size n v x) (hu : ExIn W W.heap.size n u x) : Calls Tryd.prog 10 #[.agg #[.int .i64 v.op, .int .i64 v.num, .string v.tx, .slice v.pa v.pl v.pc, .slice v.qa v.ql v.qc, .bool v.opn, .slice v.ka v.kl v.kc], .agg #[.int .i64 u.op, .int .i64 u.num, .string u.tx, .slice u.pa u.pl u.pc, .slice u.qa u.ql u.qc, .bool u.opn, .slice u.ka u.kl u.kc]] W fun e w' => e = .returned (.bool true) ∧ Below W.heap.size W w' := by
  have := sameR_ok n W W.heap.size v u x x (Nat.le_refl _) hv hu
  rw [sameE_self] at this
  exact this
theorem of_nb {b : Bool} (h : (!b) = false) : b = true := by cases b <;> simp_all
theorem up_in {n B : Nat} {w W : World} {v : V7} {x : Ex n} (h : ExIn w B n v x) (hb : Below B w W) (hB : B ≤ W.heap.size) : ExIn W W.heap.size n v x := ExIn.mono hB n _ _ (ExIn.kept hb n _ _ h)
theorem rng_in {n lo : Nat} {w : World} {v : V7} {x : Ex n} (h : ExQ w (rng lo w) n v x) : ExIn w w.heap.size n v x := by
  rw [← exq_in]
  exact ExQ.map (fun T g off hq => ⟨fun _ => rfl, hq.2⟩) n v x h
set_option maxRecDepth 100000 in
set_option maxHeartbeats 16000000 in
theorem copies_walk (n : Nat) (w : World) (hW : Words w) (v : V7) (x : Ex n) (hx : ExIn w w.heap.size n v x) : Calls Tryd.prog 4 #[.agg #[.int .i64 v.op, .int .i64 v.num, .string v.tx, .slice v.pa v.pl v.pc, .slice v.qa v.ql v.qc, .bool v.opn, .slice v.ka v.kl v.kc]] w fun e w' => e = .returned (.bool true) ∧ Below w.heap.size w w' := by
  have hp0 := hW.pos
  have hb1 : Below w.heap.size w (w.alloc (.cells #[.int .i64 v.op, .int .i64 v.num, .string v.tx, .slice v.pa v.pl v.pc, .slice v.qa v.ql v.qc, .bool v.opn, .slice v.ka v.kl v.kc] 26)) := bel1 _ _
  have NA := Lib.hid (new_cells w #[.int .i64 v.op, .int .i64 v.num, .string v.tx, .slice v.pa v.pl v.pc, .slice v.qa v.ql v.qc, .bool v.opn, .slice v.ka v.kl v.kc] 26)
  have HF1 : Hid (∀ W, Below w.heap.size w W → Calls Tryd.prog 6 #[.agg #[.int .i64 v.op, .int .i64 v.num, .string v.tx, .slice v.pa v.pl v.pc, .slice v.qa v.ql v.qc, .bool v.opn, .slice v.ka v.kl v.kc]] W (FewPost n x W)) := Lib.hid (fun W h => few_any n W w.heap.size v x h.size (ExIn.kept h n _ _ hx))
  have HAW : Hid (∀ W, Below w.heap.size w W → Calls Tryd.prog 7 #[] W fun e w' => e = .returned (.bool true) ∧ Below W.heap.size W w') := Lib.hid (fun W h => awake_any W (hW.below h hp0))
  have HP14 : Hid (∀ W, Below w.heap.size w W → SmallE n 24 x → Calls Tryd.prog 14 #[.agg #[.int .i64 v.op, .int .i64 v.num, .string v.tx, .slice v.pa v.pl v.pc, .slice v.qa v.ql v.qc, .bool v.opn, .slice v.ka v.kl v.kc]] W (PlainPost n x W)) := Lib.hid (fun W h hs => plain_ok n W w.heap.size v x 24 h.size hs (ExIn.kept h n _ _ hx))
  have HP15 : Hid (∀ W, Below w.heap.size w W → SmallE n 24 x → Calls Tryd.prog 15 #[.agg #[.int .i64 v.op, .int .i64 v.num, .string v.tx, .slice v.pa v.pl v.pc, .slice v.qa v.ql v.qc, .bool v.opn, .slice v.ka v.kl v.kc]] W (CopyPost n x W)) := Lib.hid (fun W h hs => copy_ok n W w.heap.size v x 24 h.size hs (ExIn.kept h n _ _ hx))
  have HB1 := Lib.hid hb1
  have HX := Lib.hid hx
  have hl0 : w.heap.size < (w.alloc (.cells #[.int .i64 v.op, .int .i64 v.num, .string v.tx, .slice v.pa v.pl v.pc, .slice v.qa v.ql v.qc, .bool v.opn, .slice v.ka v.kl v.kc] 26)).heap.size := by simp
  have hw0 := hb1.size
  clear hx hW
  go_enter Tryd.func4, Tryd.ntmps4
  go_wp2_with (first
    | (go_at_call 6; (with_reducible refine (HF1.out _ HB1.out).mono ?_); rintro e w2 ⟨b1, rfl, hf1, hb2⟩; have hA2 : ∀ o, w2.cell? ⟨w.heap.size, o, none⟩ = #[.int .i64 v.op, .int .i64 v.num, .string v.tx, .slice v.pa v.pl v.pc, .slice v.qa v.ql v.qc, .bool v.opn, .slice v.ka v.kl v.kc][o]? := (fun o => (hb2.cell (p := ⟨w.heap.size, o, none⟩) hl0).trans (cells_of NA.out o)); have HG1 := Lib.hid hf1; clear hf1; have hb12 := hb1.trans (hb2.mono hw0); have hs12 := hb12.size; have hl2 : w.heap.size < w2.heap.size := (Nat.lt_of_lt_of_le hl0 hb2.size))
    | (go_at_call 14; (with_reducible refine (HP14.out _ hb12 (HG1.out (of_nb (by assumption))).1).mono ?_); rintro e w3 ⟨vp, rfl, hb3, hq3⟩; have hA3 : ∀ o, w3.cell? ⟨w.heap.size, o, none⟩ = #[.int .i64 v.op, .int .i64 v.num, .string v.tx, .slice v.pa v.pl v.pc, .slice v.qa v.ql v.qc, .bool v.opn, .slice v.ka v.kl v.kc][o]? := (fun o => (hb3.cell (p := ⟨w.heap.size, o, none⟩) hl2).trans (hA2 o)); have HQ3 := Lib.hid (rng_in hq3); clear hq3; have hb13 := hb12.trans (hb3.mono hs12); have hs13 := hb13.size; have hl3 : w.heap.size < w3.heap.size := (Nat.lt_of_lt_of_le hl2 hb3.size))
    | (go_at_call 15; (with_reducible refine (HP15.out _ (hb13.alloc hs13 _) (HG1.out (of_nb (by assumption))).1).mono ?_); rintro e w4 ⟨vc, rfl, hb4, ho4⟩; have ba3 := bel1 w3 (.cells #[.int .i64 vp.op, .int .i64 vp.num, .string vp.tx, .slice vp.pa vp.pl vp.pc, .slice vp.qa vp.ql vp.qc, .bool vp.opn, .slice vp.ka vp.kl vp.kc] 26); have za3 : (w3.alloc (.cells #[.int .i64 vp.op, .int .i64 vp.num, .string vp.tx, .slice vp.pa vp.pl vp.pc, .slice vp.qa vp.ql vp.qc, .bool vp.opn, .slice vp.ka vp.kl vp.kc] 26)).heap.size = w3.heap.size + 1 := (World.size_alloc _ _); have hb34 : Below w3.heap.size w3 w4 := (ba3.trans (hb4.mono ba3.size));
       have hA4 : ∀ o, w4.cell? ⟨w.heap.size, o, none⟩ = #[.int .i64 v.op, .int .i64 v.num, .string v.tx, .slice v.pa v.pl v.pc, .slice v.qa v.ql v.qc, .bool v.opn, .slice v.ka v.kl v.kc][o]? := (fun o => (hb34.cell (p := ⟨w.heap.size, o, none⟩) hl3).trans (hA3 o));
       have hN4 : ∀ o, w4.cell? ⟨w3.heap.size, o, none⟩ = #[.int .i64 vp.op, .int .i64 vp.num, .string vp.tx, .slice vp.pa vp.pl vp.pc, .slice vp.qa vp.ql vp.qc, .bool vp.opn, .slice vp.ka vp.kl vp.kc][o]? := (fun o => (hb4.cell (p := ⟨w3.heap.size, o, none⟩) (by show w3.heap.size < _; rw [za3]; omega)).trans (cells_of (new_cells w3 #[.int .i64 vp.op, .int .i64 vp.num, .string vp.tx, .slice vp.pa vp.pl vp.pc, .slice vp.qa vp.ql vp.qc, .bool vp.opn, .slice vp.ka vp.kl vp.kc] 26) o));
       have hs4 : w3.heap.size + 1 ≤ w4.heap.size := (by have := hb4.size; omega); have hl4 : w.heap.size < w4.heap.size := (by omega); have hn4 : w3.heap.size < w4.heap.size := (by omega);
       have HSA : Hid (∀ W, Below w4.heap.size w4 W → Calls Tryd.prog 10 #[.agg #[.int .i64 vc.op, .int .i64 vc.num, .string vc.tx, .slice vc.pa vc.pl vc.pc, .slice vc.qa vc.ql vc.qc, .bool vc.opn, .slice vc.ka vc.kl vc.kc], .agg #[.int .i64 vp.op, .int .i64 vp.num, .string vp.tx, .slice vp.pa vp.pl vp.pc, .slice vp.qa vp.ql vp.qc, .bool vp.opn, .slice vp.ka vp.kl vp.kc]] W fun e w' => e = .returned (.bool true) ∧ Below W.heap.size W w') := (Lib.hid (fun W h => same_self n W vc vp x (up_in ho4.toIn h h.size) (up_in HQ3.out (hb34.trans (h.mono hb34.size)) (by have := h.size; omega))));
       have HSP : Hid (∀ W, Below w4.heap.size w4 W → Calls Tryd.prog 16 #[.agg #[.int .i64 vc.op, .int .i64 vc.num, .string vc.tx, .slice vc.pa vc.pl vc.pc, .slice vc.qa vc.ql vc.qc, .bool vc.opn, .slice vc.ka vc.kl vc.kc], .int .i64 30] W fun e w' => (∃ u, e = .returned u) ∧ Sp (w3.heap.size + 1) W w') := (Lib.hid (fun W h => spoil_ok n W (w3.heap.size + 1) vc 30 (by have := h.size; omega) (by omega) (by omega) (Shape.sp (Sp.of_below h hs4) _ _ (by have q := ExOwn.shape n vc x ho4; rw [za3] at q; exact q))));
       clear hb4 ho4 ba3 za3)
    | (go_at_call 10; (with_reducible refine (HSA.out _ (bel1 _ _)).mono ?_); rintro e w5 ⟨rfl, hb5⟩; have ba4 := bel1 w4 (.cells #[.int .i64 vc.op, .int .i64 vc.num, .string vc.tx, .slice vc.pa vc.pl vc.pc, .slice vc.qa vc.ql vc.qc, .bool vc.opn, .slice vc.ka vc.kl vc.kc] 26); have za4 : (w4.alloc (.cells #[.int .i64 vc.op, .int .i64 vc.num, .string vc.tx, .slice vc.pa vc.pl vc.pc, .slice vc.qa vc.ql vc.qc, .bool vc.opn, .slice vc.ka vc.kl vc.kc] 26)).heap.size = w4.heap.size + 1 := (World.size_alloc _ _); have hb45 : Below w4.heap.size w4 w5 := (ba4.trans (hb5.mono ba4.size));
       have hA5 : ∀ o, w5.cell? ⟨w.heap.size, o, none⟩ = #[.int .i64 v.op, .int .i64 v.num, .string v.tx, .slice v.pa v.pl v.pc, .slice v.qa v.ql v.qc, .bool v.opn, .slice v.ka v.kl v.kc][o]? := (fun o => (hb45.cell (p := ⟨w.heap.size, o, none⟩) hl4).trans (hA4 o));
       have hN5 : ∀ o, w5.cell? ⟨w3.heap.size, o, none⟩ = #[.int .i64 vp.op, .int .i64 vp.num, .string vp.tx, .slice vp.pa vp.pl vp.pc, .slice vp.qa vp.ql vp.qc, .bool vp.opn, .slice vp.ka vp.kl vp.kc][o]? := (fun o => (hb45.cell (p := ⟨w3.heap.size, o, none⟩) hn4).trans (hN4 o));
       have hC5 : ∀ o, w5.cell? ⟨w4.heap.size, o, none⟩ = #[.int .i64 vc.op, .int .i64 vc.num, .string vc.tx, .slice vc.pa vc.pl vc.pc, .slice vc.qa vc.ql vc.qc, .bool vc.opn, .slice vc.ka vc.kl vc.kc][o]? := (fun o => (hb5.cell (p := ⟨w4.heap.size, o, none⟩) (by show w4.heap.size < _; rw [za4]; omega)).trans (cells_of (new_cells w4 #[.int .i64 vc.op, .int .i64 vc.num, .string vc.tx, .slice vc.pa vc.pl vc.pc, .slice vc.qa vc.ql vc.qc, .bool vc.opn, .slice vc.ka vc.kl vc.kc] 26) o));
       have hs45 := hb45.size; clear hb5 ba4 za4)
    | (go_at_call 16; (with_reducible refine (HSP.out _ hb45).mono ?_); rintro e w6 ⟨⟨ur, rfl⟩, hs6⟩;
       have hA6 : ∀ o, w6.cell? ⟨w.heap.size, o, none⟩ = #[.int .i64 v.op, .int .i64 v.num, .string v.tx, .slice v.pa v.pl v.pc, .slice v.qa v.ql v.qc, .bool v.opn, .slice v.ka v.kl v.kc][o]? := (fun o => (hs6.bel.cell (p := ⟨w.heap.size, o, none⟩) (by show w.heap.size < _; omega)).trans (hA5 o));
       have hN6 : ∀ o, w6.cell? ⟨w3.heap.size, o, none⟩ = #[.int .i64 vp.op, .int .i64 vp.num, .string vp.tx, .slice vp.pa vp.pl vp.pc, .slice vp.qa vp.ql vp.qc, .bool vp.opn, .slice vp.ka vp.kl vp.kc][o]? := (fun o => (hs6.bel.cell (p := ⟨w3.heap.size, o, none⟩) (by show w3.heap.size < _; omega)).trans (hN5 o));
       have hb36 : Below w3.heap.size w3 w6 := ((hb34.trans (hb45.mono hb34.size)).trans (hs6.bel.mono (Nat.le_succ _)));
       have hb06 : Below w.heap.size w w6 := (hb13.trans (hb36.mono hs13)); have hs36 := hb36.size; have hs56 := hs6.bel.size; clear hs6)
    | (go_at_call 7; (with_reducible refine (HAW.out _ (by with_reducible first | exact hb06 | exact hb12)).mono ?_); rintro e w7 ⟨rfl, hb7⟩;
       try (have hA7 : ∀ o, w7.cell? ⟨w.heap.size, o, none⟩ = #[.int .i64 v.op, .int .i64 v.num, .string v.tx, .slice v.pa v.pl v.pc, .slice v.qa v.ql v.qc, .bool v.opn, .slice v.ka v.kl v.kc][o]? := (fun o => (hb7.cell (p := ⟨w.heap.size, o, none⟩) (by show w.heap.size < w6.heap.size; omega)).trans (hA6 o)); have hN7 : ∀ o, w7.cell? ⟨w3.heap.size, o, none⟩ = #[.int .i64 vp.op, .int .i64 vp.num, .string vp.tx, .slice vp.pa vp.pl vp.pc, .slice vp.qa vp.ql vp.qc, .bool vp.opn, .slice vp.ka vp.kl vp.kc][o]? := (fun o => (hb7.cell (p := ⟨w3.heap.size, o, none⟩) (by show w3.heap.size < w6.heap.size; omega)).trans (hN6 o)); have hb37 := hb36.trans (hb7.mono hs36); have hb07 := hb06.trans (hb7.mono hb06.size); have hs37 := hb37.size))
    | (go_at_call 10; (with_reducible refine (same_self n w7 v vp x (up_in HX.out hb07 hb07.size) (up_in HQ3.out hb37 hs37)).mono ?_); rintro e w8 ⟨rfl, hb8⟩; have hb08 := hb07.trans (hb8.mono hb07.size)))
  all_goals (go_ret; first | exact ⟨rfl, hb08⟩ | exact ⟨rfl, hb12.trans (hb7.mono hs12)⟩)
end Go.Proofs.YtigdibglkejciaaDoor.Ex
