/-
  May an expression be? In the program and in the reference.
-/
import Derived.Test.YtigdibglkejciaaDoorE31
namespace Go.Proofs.YtigdibglkejciaaDoor.Ex
open Go.RowKit Go
set_option linter.unusedSimpArgs false

/-- The error's number. -/
def checkE (n : Nat) (x : Ex n) : Int := if rightE n x = false then 1 else if 16 < depthE n x then 22 else 0
set_option maxHeartbeats 4000000 in
theorem check_any (n : Nat) (w : World) (B : Nat) (v : V7) (x : Ex n) (d : Nat) (hB : B ≤ w.heap.size) (hd : d ≤ 1000) (hW : Words w) (hsm : SmallE n d x) (hx : ExIn w B n v x) : Calls Tryd.prog 19 #[.agg #[.int .i64 v.op, .int .i64 v.num, .string v.tx, .slice v.pa v.pl v.pc, .slice v.qa v.ql v.qc, .bool v.opn, .slice v.ka v.kl v.kc]] w fun e w' => e = .returned (.int .i64 (checkE n x)) ∧ Below w.heap.size w w' := by
  have hp0 := hW.pos
  have hb1 := bel1 w (.cells #[.int .i64 v.op, .int .i64 v.num, .string v.tx, .slice v.pa v.pl v.pc, .slice v.qa v.ql v.qc, .bool v.opn, .slice v.ka v.kl v.kc] 26)
  have hs1 := hb1.size
  have NA := Lib.hid (new_cells w #[.int .i64 v.op, .int .i64 v.num, .string v.tx, .slice v.pa v.pl v.pc, .slice v.qa v.ql v.qc, .bool v.opn, .slice v.ka v.kl v.kc] 26)
  have hl0 : w.heap.size < (w.alloc (.cells #[.int .i64 v.op, .int .i64 v.num, .string v.tx, .slice v.pa v.pl v.pc, .slice v.qa v.ql v.qc, .bool v.opn, .slice v.ka v.kl v.kc] 26)).heap.size := by simp
  have HC := Lib.hid (right_ok n _ B v x d (by omega) (hW.below hb1 hp0) hsm (ExIn.kept (hb1.mono hB) n _ _ hx))
  have HDD : Hid (∀ W, Below w.heap.size w W → Calls Tryd.prog 22 #[.agg #[.int .i64 v.op, .int .i64 v.num, .string v.tx, .slice v.pa v.pl v.pc, .slice v.qa v.ql v.qc, .bool v.opn, .slice v.ka v.kl v.kc]] W fun e w' => e = .returned (.int .i64 (depthE n x : Nat)) ∧ Below W.heap.size W w') := Lib.hid (fun W h => depth_ok n W B v x d (by have := h.size; omega) hd hsm (ExIn.kept (h.mono hB) n _ _ hx))
  have hdl := depth_le n d x hsm
  have S : Hid (checkE n x = if rightE n x = false then 1 else if 16 < depthE n x then 22 else 0) := Lib.hid rfl
  clear hsm hx hW
  generalize rightE n x = b at HC S
  generalize depthE n x = D at HDD S hdl
  have hA : ∀ w2, Below (w.alloc (.cells #[.int .i64 v.op, .int .i64 v.num, .string v.tx, .slice v.pa v.pl v.pc, .slice v.qa v.ql v.qc, .bool v.opn, .slice v.ka v.kl v.kc] 26)).heap.size (w.alloc (.cells #[.int .i64 v.op, .int .i64 v.num, .string v.tx, .slice v.pa v.pl v.pc, .slice v.qa v.ql v.qc, .bool v.opn, .slice v.ka v.kl v.kc] 26)) w2 → ∀ o, w2.cell? ⟨w.heap.size, o, none⟩ = #[.int .i64 v.op, .int .i64 v.num, .string v.tx, .slice v.pa v.pl v.pc, .slice v.qa v.ql v.qc, .bool v.opn, .slice v.ka v.kl v.kc][o]? := fun w2 h o => (h.cell (p := ⟨w.heap.size, o, none⟩) hl0).trans (cells_of NA.out o)
  have HA := Lib.hid hA
  clear hA
  cases b
  · have hR : Hid (checkE n x = 1) := Lib.hid (by rw [S.out]; rfl)
    go_enter Tryd.func19, Tryd.ntmps19
    go_wp2_with (go_at_call 17; (with_reducible refine HC.out.mono ?_); rintro e w2 ⟨rfl, hb2⟩)
    go_ret
    exact ⟨ret_int hR.out.symm, hb1.trans (hb2.mono hs1)⟩
  · by_cases hD : 16 < D
    · have hR : Hid (checkE n x = 22) := Lib.hid (by rw [S.out, if_neg (by simp), if_pos hD])
      have i1 : (16 : Int) < (D : Int) := by omega
      go_enter Tryd.func19, Tryd.ntmps19
      go_wp2_with (first
        | (go_at_call 17; (with_reducible refine HC.out.mono ?_); rintro e w2 ⟨rfl, hb2⟩; have hA2 := HA.out w2 hb2; have hb12 := hb1.trans (hb2.mono hs1); have hs12 := hb12.size)
        | (go_at_call 22; (with_reducible refine (HDD.out _ hb12).mono ?_); rintro e w3 ⟨rfl, hb3⟩))
      go_ret
      exact ⟨ret_int hR.out.symm, hb12.trans (hb3.mono hs12)⟩
    · have hR : Hid (checkE n x = 0) := Lib.hid (by rw [S.out, if_neg (by simp), if_neg hD])
      have i1 : (D : Int) ≤ (16 : Int) := by omega
      clear hD
      go_enter Tryd.func19, Tryd.ntmps19
      go_wp2_with (first
        | (go_at_call 17; (with_reducible refine HC.out.mono ?_); rintro e w2 ⟨rfl, hb2⟩; have hA2 := HA.out w2 hb2; have hb12 := hb1.trans (hb2.mono hs1); have hs12 := hb12.size)
        | (go_at_call 22; (with_reducible refine (HDD.out _ hb12).mono ?_); rintro e w3 ⟨rfl, hb3⟩))
      go_ret
      exact ⟨ret_int hR.out.symm, hb12.trans (hb3.mono hs12)⟩
set_option maxHeartbeats 4000000 in
theorem checkR_any (n : Nat) (w : World) (B : Nat) (v : V7) (x : Ex n) (d : Nat) (hB : B ≤ w.heap.size) (hd : d ≤ 1000) (hsm : SmallE n d x) (hx : ExIn w B n v x) : Calls Tryd.prog 20 #[.agg #[.int .i64 v.op, .int .i64 v.num, .string v.tx, .slice v.pa v.pl v.pc, .slice v.qa v.ql v.qc, .bool v.opn, .slice v.ka v.kl v.kc]] w fun e w' => e = .returned (.int .i64 (checkE n x)) ∧ Below w.heap.size w w' := by
  have hp0 := hd
  have hb1 := bel1 w (.cells #[.int .i64 v.op, .int .i64 v.num, .string v.tx, .slice v.pa v.pl v.pc, .slice v.qa v.ql v.qc, .bool v.opn, .slice v.ka v.kl v.kc] 26)
  have hs1 := hb1.size
  have NA := Lib.hid (new_cells w #[.int .i64 v.op, .int .i64 v.num, .string v.tx, .slice v.pa v.pl v.pc, .slice v.qa v.ql v.qc, .bool v.opn, .slice v.ka v.kl v.kc] 26)
  have hl0 : w.heap.size < (w.alloc (.cells #[.int .i64 v.op, .int .i64 v.num, .string v.tx, .slice v.pa v.pl v.pc, .slice v.qa v.ql v.qc, .bool v.opn, .slice v.ka v.kl v.kc] 26)).heap.size := by simp
  have HC := Lib.hid (rightR_ok n _ B v x d (by omega) hsm (ExIn.kept (hb1.mono hB) n _ _ hx))
  have HDD : Hid (∀ W, Below w.heap.size w W → Calls Tryd.prog 23 #[.agg #[.int .i64 v.op, .int .i64 v.num, .string v.tx, .slice v.pa v.pl v.pc, .slice v.qa v.ql v.qc, .bool v.opn, .slice v.ka v.kl v.kc]] W fun e w' => e = .returned (.int .i64 (depthE n x : Nat)) ∧ Below W.heap.size W w') := Lib.hid (fun W h => depthR_ok n W B v x d (by have := h.size; omega) hd hsm (ExIn.kept (h.mono hB) n _ _ hx))
  have hdl := depth_le n d x hsm
  have S : Hid (checkE n x = if rightE n x = false then 1 else if 16 < depthE n x then 22 else 0) := Lib.hid rfl
  clear hsm hx
  generalize rightE n x = b at HC S
  generalize depthE n x = D at HDD S hdl
  have hA : ∀ w2, Below (w.alloc (.cells #[.int .i64 v.op, .int .i64 v.num, .string v.tx, .slice v.pa v.pl v.pc, .slice v.qa v.ql v.qc, .bool v.opn, .slice v.ka v.kl v.kc] 26)).heap.size (w.alloc (.cells #[.int .i64 v.op, .int .i64 v.num, .string v.tx, .slice v.pa v.pl v.pc, .slice v.qa v.ql v.qc, .bool v.opn, .slice v.ka v.kl v.kc] 26)) w2 → ∀ o, w2.cell? ⟨w.heap.size, o, none⟩ = #[.int .i64 v.op, .int .i64 v.num, .string v.tx, .slice v.pa v.pl v.pc, .slice v.qa v.ql v.qc, .bool v.opn, .slice v.ka v.kl v.kc][o]? := fun w2 h o => (h.cell (p := ⟨w.heap.size, o, none⟩) hl0).trans (cells_of NA.out o)
  have HA := Lib.hid hA
  clear hA
  cases b
  · have hR : Hid (checkE n x = 1) := Lib.hid (by rw [S.out]; rfl)
    go_enter Tryd.func20, Tryd.ntmps20
    go_wp2_with (go_at_call 18; (with_reducible refine HC.out.mono ?_); rintro e w2 ⟨rfl, hb2⟩)
    go_ret
    exact ⟨ret_int hR.out.symm, hb1.trans (hb2.mono hs1)⟩
  · by_cases hD : 16 < D
    · have hR : Hid (checkE n x = 22) := Lib.hid (by rw [S.out, if_neg (by simp), if_pos hD])
      have i1 : (16 : Int) < (D : Int) := by omega
      go_enter Tryd.func20, Tryd.ntmps20
      go_wp2_with (first
        | (go_at_call 18; (with_reducible refine HC.out.mono ?_); rintro e w2 ⟨rfl, hb2⟩; have hA2 := HA.out w2 hb2; have hb12 := hb1.trans (hb2.mono hs1); have hs12 := hb12.size)
        | (go_at_call 23; (with_reducible refine (HDD.out _ hb12).mono ?_); rintro e w3 ⟨rfl, hb3⟩))
      go_ret
      exact ⟨ret_int hR.out.symm, hb12.trans (hb3.mono hs12)⟩
    · have hR : Hid (checkE n x = 0) := Lib.hid (by rw [S.out, if_neg (by simp), if_neg hD])
      have i1 : (D : Int) ≤ (16 : Int) := by omega
      clear hD
      go_enter Tryd.func20, Tryd.ntmps20
      go_wp2_with (first
        | (go_at_call 18; (with_reducible refine HC.out.mono ?_); rintro e w2 ⟨rfl, hb2⟩; have hA2 := HA.out w2 hb2; have hb12 := hb1.trans (hb2.mono hs1); have hs12 := hb12.size)
        | (go_at_call 23; (with_reducible refine (HDD.out _ hb12).mono ?_); rintro e w3 ⟨rfl, hb3⟩))
      go_ret
      exact ⟨ret_int hR.out.symm, hb12.trans (hb3.mono hs12)⟩
end Go.Proofs.YtigdibglkejciaaDoor.Ex
