/-
  The depth of an expression: the program's walk.
-/
import Derived.Test.YtigdibglkejciaaDoorE15
namespace Go.Proofs.YtigdibglkejciaaDoor.Ex
open Go.RowKit Go
set_option linter.unusedSimpArgs false

def DepthOk (n : Nat) : Prop := ∀ (w : World) (B : Nat) (v : V7) (x : Ex n) (d : Nat), B ≤ w.heap.size → d ≤ 1000 → SmallE n d x → ExIn w B n v x → Calls Tryd.prog 22 #[.agg #[.int .i64 v.op, .int .i64 v.num, .string v.tx, .slice v.pa v.pl v.pc, .slice v.qa v.ql v.qc, .bool v.opn, .slice v.ka v.kl v.kc]] w fun e w' => e = .returned (.int .i64 (depthE n x : Nat)) ∧ Below w.heap.size w w'
set_option maxRecDepth 100000 in
set_option maxHeartbeats 8000000 in
theorem depth_succ (n : Nat) (HD : Hid (DepthOk n)) : DepthOk (n + 1) := by
  intro w B v x d hB hd hsm hx
  have hb1 := bel1 w (.cells #[.int .i64 v.op, .int .i64 v.num, .string v.tx, .slice v.pa v.pl v.pc, .slice v.qa v.ql v.qc, .bool v.opn, .slice v.ka v.kl v.kc] 26)
  have hs1 := hb1.size
  have HSM := Lib.hid hsm
  have HPS := Lib.hid (parts_small hsm)
  have HC := Lib.hid (parts_any n (w.alloc (.cells #[.int .i64 v.op, .int .i64 v.num, .string v.tx, .slice v.pa v.pl v.pc, .slice v.qa v.ql v.qc, .bool v.opn, .slice v.ka v.kl v.kc] 26)) B v x (by omega) (ExIn.kept (hb1.mono hB) (n + 1) _ _ hx) hsm.2.2.2.1)
  clear hsm hx
  go_enter Tryd.func22, Tryd.ntmps22
  go_wp2_with (go_at_call 35; (with_reducible refine HC.out.mono ?_); rintro e W2 ⟨a, cap, rfl, hb2, hK, -⟩)
  generalize hL : partsE n x = L at hK ⊢
  have HL := Lib.hid hL
  have HK := Lib.hid hK
  have hbw := hb1.trans (hb2.mono hs1)
  have hl2 : L.length ≤ 200 := by have := HPS.out.1; rw [hL] at this; exact this
  clear hL hK
  go_loopw [3, 9] (fun m i wr => ∃ k : Nat, k ≤ L.length ∧ i = .int .i64 k ∧ m = .int .i64 (maxL (depthE n) (L.take k) : Nat) ∧ Below W2.heap.size W2 wr) (fun _ i _ => L.length - (intOf i).toNat)
  case atStart => exact ⟨0, Nat.zero_le _, rfl, by simp [maxL], Below.refl _ _⟩
  case round =>
    obtain ⟨k, hk, rfl, rfl, hbel⟩ := hrel
    have hs2 := hbel.size
    by_cases hlt : k < L.length
    · have i1 : (0 : Int) ≤ (k : Int) := by omega
      have i2 : (k : Int) < (L.length : Int) := by omega
      obtain ⟨g, off, rfl, hg, hc⟩ := HK.out.2.2 (by omega)
      obtain ⟨v', hE, hI⟩ := hc k hlt
      obtain ⟨d0, d1, d2, d3, d4, d5, d6⟩ := hE.kept (W' := wr) (fun o => hbel.cell (p := ⟨g, o, none⟩) hg)
      have hsk : SmallE n (d - 1) L[k] := by have h := HPS.out.2; have e := HL.out; subst e; exact h k hlt
      have hbb := bel1 wr (.cells #[.int .i64 v'.op, .int .i64 v'.num, .string v'.tx, .slice v'.pa v'.pl v'.pc, .slice v'.qa v'.ql v'.qc, .bool v'.opn, .slice v'.ka v'.kl v'.kc] 26)
      have hbs := hbb.size
      have HCk := Lib.hid (HD.out (wr.alloc (.cells #[.int .i64 v'.op, .int .i64 v'.num, .string v'.tx, .slice v'.pa v'.pl v'.pc, .slice v'.qa v'.ql v'.qc, .bool v'.opn, .slice v'.ka v'.kl v'.kc] 26)) B v' L[k] (d - 1) (by have := hb2.size; omega) (by omega) hsk (ExIn.kept ((hbel.trans (hbb.mono hs2)).mono (by have := hb2.size; omega)) n _ _ hI))
      have hdl := depth_le n (d - 1) _ hsk
      have hst := maxL_take (depthE n) L k hlt
      generalize depthE n L[k] = q at HCk hst hdl
      generalize hM : maxL (depthE n) (L.take k) = M at hst ⊢
      have HST := Lib.hid hst
      clear hc hE hI hsk hM hst
      by_cases hq : M < q
      · have j1 : (M : Int) < (q : Int) := by omega
        go_wp2_with (go_at_call 22; (with_reducible refine HCk.out.mono ?_); rintro e W3 ⟨rfl, hb3⟩)
        go_roundw
        case rel => exact ⟨k + 1, by omega, by go_num, by rw [HST.out, Nat.max_eq_right (by omega)], hbel.trans ((hbb.trans (hb3.mono hbs)).mono hs2)⟩
        case measure => simp [intOf]; omega
      · have j1 : (q : Int) ≤ (M : Int) := by omega
        go_wp2_with (go_at_call 22; (with_reducible refine HCk.out.mono ?_); rintro e W3 ⟨rfl, hb3⟩)
        go_roundw
        case rel => exact ⟨k + 1, by omega, by go_num, by rw [HST.out, Nat.max_eq_left (by omega)], hbel.trans ((hbb.trans (hb3.mono hbs)).mono hs2)⟩
        case measure => simp [intOf]; omega
    · have hge : (L.length : Int) ≤ (k : Int) := by omega
      have hfin : Hid (depthE (n + 1) x = 1 + maxL (depthE n) (L.take k)) := Lib.hid (by rw [List.take_of_length_le (by omega)]; simp only [depthE]; rw [HL.out])
      have hb := depth_le (n + 1) d x HSM.out
      rw [hfin.out] at hb
      generalize maxL (depthE n) (L.take k) = M at hfin hb ⊢
      have hM9 : (M : Int) ≤ 999 := by omega
      have hM0 : (0 : Int) ≤ (M : Int) := by omega
      go_wp2
      go_ret
      exact ⟨ret_int (by rw [hfin.out]; omega), hbw.trans (hbel.mono (by have := hb2.size; omega))⟩
end Go.Proofs.YtigdibglkejciaaDoor.Ex
