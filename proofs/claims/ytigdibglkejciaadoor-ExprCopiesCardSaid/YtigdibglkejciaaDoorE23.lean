/-
  Two expressions: are they the same? In the reference.
-/
import Derived.Test.YtigdibglkejciaaDoorE22
import Derived.Deep.RegionHeld3
import Derived.BigQuiet
namespace Go.Proofs.YtigdibglkejciaaDoor.Ex
open Go.RowKit Go
set_option linter.unusedSimpArgs false

abbrev SB (w W : World) : Prop := (∀ b o, b < w.heap.size → W.cell? ⟨b, o, none⟩ = w.cell? ⟨b, o, none⟩) ∧ Below w.heap.size w W
theorem SB.of {w W : World} (h : Below w.heap.size w W) : SB w W := ⟨fun b o hb => h.cell (p := ⟨b, o, none⟩) hb, h⟩
theorem SB.below {w W W1 : World} (h : SB w W) (hb : Below W.heap.size W W1) : SB w W1 := SB.of (h.2.trans (hb.mono h.2.size))
theorem SB.drew {w W : World} (h : SB w W) : SB w W.drew := SB.of h.2.drew
theorem SB.refl (w : World) : SB w w := SB.of (Below.refl _ _)
/-- The same in what is plain. -/
def sameP (a b : EP) : Bool := a.op == b.op && a.num == b.num && strEq a.text b.text && a.opn == b.opn
/-- The same. -/
def sameE : (n : Nat) → Ex n → Ex n → Bool
  | 0, x, _ => x.elim
  | n + 1, x, y => sameP x.1 y.1 && eqL strEq x.2.1 y.2.1 && eqL (fun p q => strEq p.1 q.1 && sameE n p.2 q.2) x.2.2.1 y.2.2.1 && eqL (sameE n) x.2.2.2 y.2.2.2
def sameQ (n : Nat) (p q : ByteArray × Ex n) : Bool := strEq p.1 q.1 && sameE n p.2 q.2
theorem sameE_succ (n : Nat) (x y : Ex (n + 1)) : sameE (n + 1) x y = (sameP x.1 y.1 && eqL strEq x.2.1 y.2.1 && eqL (sameQ n) x.2.2.1 y.2.2.1 && eqL (sameE n) x.2.2.2 y.2.2.2) := rfl

def SameROk (n : Nat) : Prop := ∀ (w : World) (B : Nat) (v u : V7) (x y : Ex n), B ≤ w.heap.size → ExIn w B n v x → ExIn w B n u y → Calls Tryd.prog 10 #[.agg #[.int .i64 v.op, .int .i64 v.num, .string v.tx, .slice v.pa v.pl v.pc, .slice v.qa v.ql v.qc, .bool v.opn, .slice v.ka v.kl v.kc], .agg #[.int .i64 u.op, .int .i64 u.num, .string u.tx, .slice u.pa u.pl u.pc, .slice u.qa u.ql u.qc, .bool u.opn, .slice u.ka u.kl u.kc]] w fun e w' => e = .returned (.bool (sameE n x y)) ∧ Below w.heap.size w w'
set_option maxRecDepth 100000 in
set_option maxHeartbeats 16000000 in
theorem sameR_succ (n : Nat) (HD : Hid (SameROk n)) : SameROk (n + 1) := by
  intro w B v u x y hB hx hy
  obtain ⟨vop, vnum, vtx, vpa, vpl, vpc, vqa, vql, vqc, vopn, vka, vkl, vkc⟩ := v
  obtain ⟨uop, unum, utx, upa, upl, upc, uqa, uql, uqc, uopn, uka, ukl, ukc⟩ := u
  obtain ⟨hop, hnum, htx, hopn, hps, hqs, hks⟩ := hx
  obtain ⟨gop, gnum, gtx, gopn, gps, gqs, gks⟩ := hy
  simp only at hop hnum htx hopn hps hqs hks gop gnum gtx gopn gps gqs gks ⊢
  have S : Hid (sameE (n + 1) x y = (((((vop == uop) && (vnum == unum)) && strEq vtx utx) && (vopn == uopn)) && eqL strEq x.2.1 y.2.1 && eqL (sameQ n) x.2.2.1 y.2.2.1 && eqL (sameE n) x.2.2.2 y.2.2.2)) := Lib.hid (by rw [sameE_succ, hop, gop, hnum, gnum, htx, gtx, hopn, gopn]; rfl)
  have hb1 : Below w.heap.size w ((w.alloc (.cells #[.int .i64 vop, .int .i64 vnum, .string vtx, .slice vpa vpl vpc, .slice vqa vql vqc, .bool vopn, .slice vka vkl vkc] 26)).alloc (.cells #[.int .i64 uop, .int .i64 unum, .string utx, .slice upa upl upc, .slice uqa uql uqc, .bool uopn, .slice uka ukl ukc] 26)) := (bel1 _ _).trans ((bel1 _ _).mono (by simp))
  have NA := Lib.hid (Below.heap_alloc (w.alloc (.cells #[.int .i64 vop, .int .i64 vnum, .string vtx, .slice vpa vpl vpc, .slice vqa vql vqc, .bool vopn, .slice vka vkl vkc] 26)) (.cells #[.int .i64 uop, .int .i64 unum, .string utx, .slice upa upl upc, .slice uqa uql uqc, .bool uopn, .slice uka ukl ukc] 26) w.heap.size (by simp) |>.trans (new_cells w #[.int .i64 vop, .int .i64 vnum, .string vtx, .slice vpa vpl vpc, .slice vqa vql vqc, .bool vopn, .slice vka vkl vkc] 26))
  have NU := Lib.hid (new_cells (w.alloc (.cells #[.int .i64 vop, .int .i64 vnum, .string vtx, .slice vpa vpl vpc, .slice vqa vql vqc, .bool vopn, .slice vka vkl vkc] 26)) #[.int .i64 uop, .int .i64 unum, .string utx, .slice upa upl upc, .slice uqa uql uqc, .bool uopn, .slice uka ukl ukc] 26)
  rw [World.size_alloc] at NU
  obtain ⟨w1, hw1⟩ : ∃ w1, (w.alloc (.cells #[.int .i64 vop, .int .i64 vnum, .string vtx, .slice vpa vpl vpc, .slice vqa vql vqc, .bool vopn, .slice vka vkl vkc] 26)).alloc (.cells #[.int .i64 uop, .int .i64 unum, .string utx, .slice upa upl upc, .slice uqa uql uqc, .bool uopn, .slice uka ukl ukc] 26) = w1 := ⟨_, rfl⟩
  have hs1 : w1.heap.size = w.heap.size + 1 + 1 := by rw [← hw1]; simp
  rw [hw1] at hb1 NA NU
  have LP := Lib.hid hps.1
  have LP' := Lib.hid gps.1
  have LQ := Lib.hid hqs.1
  have LQ' := Lib.hid gqs.1
  have LK := Lib.hid hks.1
  have LK' := Lib.hid gks.1
  have HQ := Lib.hid hqs
  have HQ' := Lib.hid gqs
  have HK := Lib.hid hks
  have HK' := Lib.hid gks
  have HC : Hid (Calls Tryd.prog 11 #[.slice vpa vpl vpc, .slice upa upl upc] w1 fun e w' => e = .returned (.bool (eqL strEq x.2.1 y.2.1)) ∧ Below w1.heap.size w1 w') := by
    have h1 := hps.kept (hb1.mono hB)
    have h2 := gps.kept (hb1.mono hB)
    rw [hps.1] at h1 ⊢
    rw [gps.1] at h2 ⊢
    exact Lib.hid (strsR_same B vpa upa vpc upc x.2.1 y.2.1 w1 (by omega) h1 h2)
  have HW1 := Lib.hid hw1
  clear hop hnum htx hopn hps hqs hks gop gnum gtx gopn gps gqs gks
  by_cases e1 : vop = uop
  rotate_left
  · have hR : Hid (sameE (n + 1) x y = false) := Lib.hid (by rw [S.out]; simp [e1])
    have e1' : ((vop : Int) != uop) = true := by simpa using e1
    clear e1 hs1 hw1
    go_enter Tryd.func10, Tryd.ntmps10
    go_wp2
    go_ret
    exact ⟨ret_bool hR.out.symm, by rw [HW1.out]; exact hb1⟩
  subst e1
  by_cases e2 : vnum = unum
  rotate_left
  · have hR : Hid (sameE (n + 1) x y = false) := Lib.hid (by rw [S.out]; simp [e2])
    have e2' : ((vnum : Int) != unum) = true := by simpa using e2
    clear e2 hs1 hw1
    go_enter Tryd.func10, Tryd.ntmps10
    go_wp2
    go_ret
    exact ⟨ret_bool hR.out.symm, by rw [HW1.out]; exact hb1⟩
  subst e2
  cases e3 : (vtx.toList == utx.toList)
  · have hR : Hid (sameE (n + 1) x y = false) := Lib.hid (by rw [S.out]; simp [strEq, e3])
    clear hs1 hw1
    go_enter Tryd.func10, Tryd.ntmps10
    go_wp2
    go_ret
    exact ⟨ret_bool hR.out.symm, by rw [HW1.out]; exact hb1⟩
  by_cases e4 : vopn = uopn
  rotate_left
  · have hR : Hid (sameE (n + 1) x y = false) := Lib.hid (by rw [S.out]; simp [e4])
    clear hs1 hw1
    cases vopn <;> cases uopn
    · exact absurd rfl e4
    · clear e4
      go_enter Tryd.func10, Tryd.ntmps10
      go_wp2
      go_ret
      exact ⟨ret_bool hR.out.symm, by rw [HW1.out]; exact hb1⟩
    · clear e4
      go_enter Tryd.func10, Tryd.ntmps10
      go_wp2
      go_ret
      exact ⟨ret_bool hR.out.symm, by rw [HW1.out]; exact hb1⟩
    · exact absurd rfl e4
  subst e4
  obtain ⟨b5, hb5⟩ : ∃ b, eqL strEq x.2.1 y.2.1 = b := ⟨_, rfl⟩
  rw [hb5] at HC S
  have hl0 : w.heap.size < w1.heap.size := by omega
  have hl1 : w.heap.size + 1 < w1.heap.size := by omega
  have hw0 : w.heap.size ≤ w1.heap.size := by omega
  clear hb5 hs1 hw1
  rw [← HW1.out] at HC
  cases b5
  · have hR : Hid (sameE (n + 1) x y = false) := Lib.hid (by rw [S.out]; simp)
    go_enter Tryd.func10, Tryd.ntmps10
    go_wp2_with (go_at_call 11; (with_reducible refine HC.out.mono ?_); rintro e w2 ⟨rfl, hb2⟩; rw [HW1.out] at hb2; have hA : ∀ o, w2.cell? ⟨w.heap.size, o, none⟩ = #[.int .i64 vop, .int .i64 vnum, .string vtx, .slice vpa vpl vpc, .slice vqa vql vqc, .bool vopn, .slice vka vkl vkc][o]? := fun o => (hb2.cell (p := ⟨w.heap.size, o, none⟩) hl0).trans (cells_of NA.out o); have hU : ∀ o, w2.cell? ⟨w.heap.size + 1, o, none⟩ = #[.int .i64 vop, .int .i64 vnum, .string utx, .slice upa upl upc, .slice uqa uql uqc, .bool vopn, .slice uka ukl ukc][o]? := fun o => (hb2.cell (p := ⟨w.heap.size + 1, o, none⟩) hl1).trans (cells_of NU.out o))
    go_ret
    exact ⟨ret_bool hR.out.symm, hb1.trans (hb2.mono hw0)⟩
  by_cases e6 : vql = uql
  rotate_left
  · have hR : Hid (sameE (n + 1) x y = false) := Lib.hid (by rw [S.out, eqL_len (sameQ n) _ _ (by have := LQ.out; have := LQ'.out; omega)]; simp)
    have e6' : ((vql : Int) != (uql : Int)) = true := by simpa using (fun h => e6 (by omega) : (vql : Int) ≠ uql)
    clear e6
    go_enter Tryd.func10, Tryd.ntmps10
    go_wp2_with (go_at_call 11; (with_reducible refine HC.out.mono ?_); rintro e w2 ⟨rfl, hb2⟩; rw [HW1.out] at hb2; have hA : ∀ o, w2.cell? ⟨w.heap.size, o, none⟩ = #[.int .i64 vop, .int .i64 vnum, .string vtx, .slice vpa vpl vpc, .slice vqa vql vqc, .bool vopn, .slice vka vkl vkc][o]? := fun o => (hb2.cell (p := ⟨w.heap.size, o, none⟩) hl0).trans (cells_of NA.out o); have hU : ∀ o, w2.cell? ⟨w.heap.size + 1, o, none⟩ = #[.int .i64 vop, .int .i64 vnum, .string utx, .slice upa upl upc, .slice uqa uql uqc, .bool vopn, .slice uka ukl ukc][o]? := fun o => (hb2.cell (p := ⟨w.heap.size + 1, o, none⟩) hl1).trans (cells_of NU.out o))
    go_ret
    exact ⟨ret_bool hR.out.symm, hb1.trans (hb2.mono hw0)⟩
  subst e6
  by_cases e7 : vkl = ukl
  rotate_left
  · have hR : Hid (sameE (n + 1) x y = false) := Lib.hid (by rw [S.out, eqL_len (sameE n) _ _ (by have := LK.out; have := LK'.out; omega)]; simp)
    have e7' : ((vkl : Int) != (ukl : Int)) = true := by simpa using (fun h => e7 (by omega) : (vkl : Int) ≠ ukl)
    clear e7
    go_enter Tryd.func10, Tryd.ntmps10
    go_wp2_with (go_at_call 11; (with_reducible refine HC.out.mono ?_); rintro e w2 ⟨rfl, hb2⟩; rw [HW1.out] at hb2; have hA : ∀ o, w2.cell? ⟨w.heap.size, o, none⟩ = #[.int .i64 vop, .int .i64 vnum, .string vtx, .slice vpa vpl vpc, .slice vqa vql vqc, .bool vopn, .slice vka vkl vkc][o]? := fun o => (hb2.cell (p := ⟨w.heap.size, o, none⟩) hl0).trans (cells_of NA.out o); have hU : ∀ o, w2.cell? ⟨w.heap.size + 1, o, none⟩ = #[.int .i64 vop, .int .i64 vnum, .string utx, .slice upa upl upc, .slice uqa vql uqc, .bool vopn, .slice uka ukl ukc][o]? := fun o => (hb2.cell (p := ⟨w.heap.size + 1, o, none⟩) hl1).trans (cells_of NU.out o))
    go_ret
    exact ⟨ret_bool hR.out.symm, hb1.trans (hb2.mono hw0)⟩
  subst e7
  generalize hql : x.2.2.1 = ql at S HQ LQ
  generalize hql' : y.2.2.1 = ql' at S HQ' LQ'
  generalize hkl : x.2.2.2 = kl at S HK LK
  generalize hkl' : y.2.2.2 = kl' at S HK' LK'
  clear hql hql' hkl hkl'
  have LQI : Hid (vql ≤ ql.length ∧ vql ≤ ql'.length ∧ ql.length = ql'.length) := Lib.hid (by have := LQ.out; have := LQ'.out; omega)
  have LKI : Hid (vkl ≤ kl.length ∧ vkl ≤ kl'.length ∧ kl.length = kl'.length) := Lib.hid (by have := LK.out; have := LK'.out; omega)
  have hm3 : vql ≤ 9223372036854775807 := by have := LQ.out; have := HQ.out.2.1; unfold maxLen at this; omega
  have hm4 : vkl ≤ 9223372036854775807 := by have := LK.out; have := HK.out.2.1; unfold maxLen at this; omega
  go_enter Tryd.func10, Tryd.ntmps10
  go_wp2_with (go_at_call 11; (with_reducible refine HC.out.mono ?_); rintro e w2 ⟨rfl, hb2⟩; rw [HW1.out] at hb2; have hA : ∀ o, w2.cell? ⟨w.heap.size, o, none⟩ = #[.int .i64 vop, .int .i64 vnum, .string vtx, .slice vpa vpl vpc, .slice vqa vql vqc, .bool vopn, .slice vka vkl vkc][o]? := fun o => (hb2.cell (p := ⟨w.heap.size, o, none⟩) hl0).trans (cells_of NA.out o); have hU : ∀ o, w2.cell? ⟨w.heap.size + 1, o, none⟩ = #[.int .i64 vop, .int .i64 vnum, .string utx, .slice upa upl upc, .slice uqa vql uqc, .bool vopn, .slice uka vkl ukc][o]? := fun o => (hb2.cell (p := ⟨w.heap.size + 1, o, none⟩) hl1).trans (cells_of NU.out o))
  have hb12 := Lib.hid (hb1.trans (hb2.mono hw0))
  clear hA hU
  go_loopw [5] (fun i wr => ∃ k : Nat, k ≤ vql ∧ i = .int .i64 k ∧ Below w1.heap.size w1 wr ∧ Hid (∀ i, i < k → (h : i < ql.length) → (h' : i < ql'.length) → sameQ n ql[i] ql'[i] = true)) (fun i _ => vql - (intOf i).toNat)
  case atStart => exact ⟨0, Nat.zero_le _, rfl, hb2, fun i h => by omega⟩
  case round =>
    obtain ⟨k, hk, rfl, hbel, hok⟩ := hrel
    have hs2 := hbel.size
    have hA : ∀ o, wr.cell? ⟨w.heap.size, o, none⟩ = #[.int .i64 vop, .int .i64 vnum, .string vtx, .slice vpa vpl vpc, .slice vqa vql vqc, .bool vopn, .slice vka vkl vkc][o]? := fun o => (hbel.cell (p := ⟨w.heap.size, o, none⟩) hl0).trans (cells_of NA.out o)
    have hU : ∀ o, wr.cell? ⟨w.heap.size + 1, o, none⟩ = #[.int .i64 vop, .int .i64 vnum, .string utx, .slice upa upl upc, .slice uqa vql uqc, .bool vopn, .slice uka vkl ukc][o]? := fun o => (hbel.cell (p := ⟨w.heap.size + 1, o, none⟩) hl1).trans (cells_of NU.out o)
    have hr0 : w.heap.size < wr.heap.size := by omega
    have hr1 : w.heap.size + 1 < wr.heap.size := by omega
    by_cases hlt : k < vql
    · have i1 : (0 : Int) ≤ (k : Int) := by omega
      have i2 : (k : Int) < (vql : Int) := by omega
      have hk1 : k < ql.length := by have := LQI.out.1; omega
      have hk2 : k < ql'.length := by have := LQI.out.2.1; omega
      obtain ⟨g, off, rfl, hg, hc⟩ := HQ.out.2.2 (by omega)
      obtain ⟨g', off', rfl, hg', hc'⟩ := HQ'.out.2.2 (by omega)
      obtain ⟨v1, hcn, hE, hI⟩ := hc k hk1
      obtain ⟨u1, hcn', hE', hI'⟩ := hc' k hk2
      have hbw : Below w.heap.size w wr := hb1.trans (hbel.mono hw0)
      have hg1 : g < wr.heap.size := by omega
      have hg2 : g' < wr.heap.size := by omega
      have cn : wr.cell? ⟨g, off + k * 8, none⟩ = _ := (hbw.cell (p := ⟨g, _, none⟩) (by show g < w.heap.size; omega)).trans hcn
      have cn' : wr.cell? ⟨g', off' + k * 8, none⟩ = _ := (hbw.cell (p := ⟨g', _, none⟩) (by show g' < w.heap.size; omega)).trans hcn'
      obtain ⟨d0, d1, d2, d3, d4, d5, d6⟩ := hE.kept (W' := wr) (fun o => hbw.cell (p := ⟨g, o, none⟩) (by show g < w.heap.size; omega))
      obtain ⟨f0, f1, f2, f3, f4, f5, f6⟩ := hE'.kept (W' := wr) (fun o => hbw.cell (p := ⟨g', o, none⟩) (by show g' < w.heap.size; omega))
      have HCk : Hid (∀ W, Below wr.heap.size wr W → Calls Tryd.prog 10 #[.agg #[.int .i64 v1.op, .int .i64 v1.num, .string v1.tx, .slice v1.pa v1.pl v1.pc, .slice v1.qa v1.ql v1.qc, .bool v1.opn, .slice v1.ka v1.kl v1.kc], .agg #[.int .i64 u1.op, .int .i64 u1.num, .string u1.tx, .slice u1.pa u1.pl u1.pc, .slice u1.qa u1.ql u1.qc, .bool u1.opn, .slice u1.ka u1.kl u1.kc]] W fun e w' => e = .returned (.bool (sameE n ql[k].2 ql'[k].2)) ∧ Below W.heap.size W w') :=
        Lib.hid (fun W hW => HD.out W B v1 u1 _ _ (by have := hW.size; omega) (ExIn.kept ((hbw.trans (hW.mono (by omega))).mono hB) n _ _ hI) (ExIn.kept ((hbw.trans (hW.mono (by omega))).mono hB) n _ _ hI'))
      have hyes : Hid (sameQ n ql[k] ql'[k] = true → ∀ i, i < k + 1 → (h : i < ql.length) → (h' : i < ql'.length) → sameQ n ql[i] ql'[i] = true) := Lib.hid (fun hr i hi h h2 => (Nat.lt_succ_iff_lt_or_eq.1 hi).elim (fun h' => hok.out i h' h h2) (fun e => by subst e; exact hr))
      have hno : Hid (sameQ n ql[k] ql'[k] = false → sameE (n + 1) x y = false) := Lib.hid (fun hr => by rw [S.out, eqL_no (sameQ n) _ _ k hk1 hk2 hr]; simp)
      have hq : Hid (sameQ n ql[k] ql'[k] = (strEq ql[k].1 ql'[k].1 && sameE n ql[k].2 ql'[k].2)) := Lib.hid rfl
      generalize sameQ n ql[k] ql'[k] = t at hyes hno hq
      generalize sameE n ql[k].2 ql'[k].2 = q at HCk hq
      generalize ql[k].1 = nm at cn hq
      generalize ql'[k].1 = nm' at cn' hq
      have hS := SB.refl wr
      clear hc hc' hcn hcn' hE hE' hI hI' hbw hok
      cases hb : (nm.toList == nm'.toList)
      · have hR := Lib.hid (hno.out (by rw [hq.out]; simp [strEq, hb]))
        clear hyes hno hq
        go_wp2
        refine wp_region_held_drew (S := SB wr) (by kernel_rfl) ?_ (fun hH => ?_)
        · with_reducible exact SB.drew (by assumption)
        refine wpAnyH_take (i := 0) (v := ?_) rfl (by kernel_rfl) (by kernel_rfl) (by kernel_rfl) (fun _ _ _ h => h) (Or.inl ⟨by rfl, ?_⟩) (by assumption) ?_
        rotate_left; focus (intro w hSw; (try dsimp only at hSw); go_simp; try with_reducible rfl)
        (try simp only [List.getElem_toArray, List.getElem_cons_succ, List.getElem_cons_zero, Act.put, List.setIfInBounds_toArray, List.set_cons_zero, List.set_cons_succ])
        refine wpAnyH_take (i := 1) (v := ?_) rfl (by kernel_rfl) (by kernel_rfl) (by kernel_rfl) (fun _ _ _ h => h) (Or.inl ⟨by rfl, ?_⟩) (by assumption) ?_
        rotate_left; focus (intro w hSw; (try dsimp only at hSw); go_simp; try with_reducible rfl)
        (try simp only [List.getElem_toArray, List.getElem_cons_succ, List.getElem_cons_zero, Act.put, List.setIfInBounds_toArray, List.set_cons_zero, List.set_cons_succ])
        refine wpAnyH_take (i := 2) (v := ?_) rfl (by kernel_rfl) (by kernel_rfl) (by kernel_rfl) (fun _ _ _ h => h) (Or.inl ⟨by rfl, ?_⟩) (by assumption) ?_
        rotate_left; focus (intro w hSw; (try dsimp only at hSw); go_simp; try with_reducible rfl)
        (try simp only [List.getElem_toArray, List.getElem_cons_succ, List.getElem_cons_zero, Act.put, List.setIfInBounds_toArray, List.set_cons_zero, List.set_cons_succ])
        refine wpAnyH_take (i := 3) (v := ?_) rfl (by kernel_rfl) (by kernel_rfl) (by kernel_rfl) (fun _ _ _ h => h) (Or.inl ⟨by rfl, ?_⟩) (by assumption) ?_
        rotate_left; focus (intro w hSw; (try dsimp only at hSw); go_simp; try with_reducible rfl)
        (try simp only [List.getElem_toArray, List.getElem_cons_succ, List.getElem_cons_zero, Act.put, List.setIfInBounds_toArray, List.set_cons_zero, List.set_cons_succ])
        refine wpAnyH_take (i := 4) (v := ?_) rfl (by kernel_rfl) (by kernel_rfl) (by kernel_rfl) (fun _ _ _ h => h) (Or.inl ⟨by rfl, ?_⟩) (by assumption) ?_
        rotate_left; focus (intro w hSw; (try dsimp only at hSw); go_simp; try with_reducible rfl)
        (try simp only [List.getElem_toArray, List.getElem_cons_succ, List.getElem_cons_zero, Act.put, List.setIfInBounds_toArray, List.set_cons_zero, List.set_cons_succ])
        refine wpAnyH_take (i := 5) (v := ?_) rfl (by kernel_rfl) (by kernel_rfl) (by kernel_rfl) (fun _ _ _ h => h) (Or.inl ⟨by rfl, ?_⟩) (by assumption) ?_
        rotate_left; focus (intro w hSw; (try dsimp only at hSw); go_simp; try with_reducible rfl)
        (try simp only [List.getElem_toArray, List.getElem_cons_succ, List.getElem_cons_zero, Act.put, List.setIfInBounds_toArray, List.set_cons_zero, List.set_cons_succ])
        refine wpAnyH_take (i := 6) (v := ?_) rfl (by kernel_rfl) (by kernel_rfl) (by kernel_rfl) (fun _ _ _ h => h) (Or.inl ⟨by rfl, ?_⟩) (by assumption) ?_
        rotate_left; focus (intro w hSw; (try dsimp only at hSw); go_simp; try with_reducible rfl)
        (try simp only [List.getElem_toArray, List.getElem_cons_succ, List.getElem_cons_zero, Act.put, List.setIfInBounds_toArray, List.set_cons_zero, List.set_cons_succ])
        refine wpAnyH_take (i := 7) (v := ?_) rfl (by kernel_rfl) (by kernel_rfl) (by kernel_rfl) (fun _ _ _ h => h) (Or.inl ⟨by rfl, ?_⟩) (by assumption) ?_
        rotate_left; focus (intro w hSw; (try dsimp only at hSw); go_simp; try with_reducible rfl)
        (try simp only [List.getElem_toArray, List.getElem_cons_succ, List.getElem_cons_zero, Act.put, List.setIfInBounds_toArray, List.set_cons_zero, List.set_cons_succ])
        refine wpAnyH_take (i := 8) (v := ?_) rfl (by kernel_rfl) (by kernel_rfl) (by kernel_rfl) (fun _ _ _ h => h) (Or.inl ⟨by rfl, ?_⟩) (by assumption) ?_
        rotate_left; focus (intro w hSw; (try dsimp only at hSw); go_simp; try with_reducible rfl)
        (try simp only [List.getElem_toArray, List.getElem_cons_succ, List.getElem_cons_zero, Act.put, List.setIfInBounds_toArray, List.set_cons_zero, List.set_cons_succ])
        refine wpAnyH_take (i := 9) (v := ?_) rfl (by kernel_rfl) (by kernel_rfl) (by kernel_rfl) (fun _ _ _ h => h) (Or.inl ⟨by rfl, ?_⟩) (by assumption) ?_
        rotate_left; focus (intro w hSw; (try dsimp only at hSw); go_simp; try with_reducible rfl)
        (try simp only [List.getElem_toArray, List.getElem_cons_succ, List.getElem_cons_zero, Act.put, List.setIfInBounds_toArray, List.set_cons_zero, List.set_cons_succ])
        refine wpAnyH_take (i := 10) (v := ?_) rfl (by kernel_rfl) (by kernel_rfl) (by kernel_rfl) (fun _ _ _ h => h) (Or.inl ⟨by rfl, ?_⟩) (by assumption) ?_
        rotate_left; focus (intro w hSw; (try dsimp only at hSw); go_simp; try with_reducible rfl)
        (try simp only [List.getElem_toArray, List.getElem_cons_succ, List.getElem_cons_zero, Act.put, List.setIfInBounds_toArray, List.set_cons_zero, List.set_cons_succ])
        refine wpAnyH_take (i := 11) (v := ?_) rfl (by kernel_rfl) (by kernel_rfl) (by kernel_rfl) (fun _ _ _ h => h) (Or.inl ⟨by rfl, ?_⟩) (by assumption) ?_
        rotate_left; focus (intro w hSw; (try dsimp only at hSw); go_simp; try with_reducible rfl)
        (try simp only [List.getElem_toArray, List.getElem_cons_succ, List.getElem_cons_zero, Act.put, List.setIfInBounds_toArray, List.set_cons_zero, List.set_cons_succ])
        refine wpAnyH_take (i := 12) (v := ?_) rfl (by kernel_rfl) (by kernel_rfl) (by kernel_rfl) (fun _ _ _ h => h) (Or.inl ⟨by rfl, ?_⟩) (by assumption) ?_
        rotate_left; focus (intro w hSw; (try dsimp only at hSw); go_simp; try with_reducible rfl)
        (try simp only [List.getElem_toArray, List.getElem_cons_succ, List.getElem_cons_zero, Act.put, List.setIfInBounds_toArray, List.set_cons_zero, List.set_cons_succ])
        refine wpAnyH_take (i := 13) (v := ?_) rfl (by kernel_rfl) (by kernel_rfl) (by kernel_rfl) (fun _ _ _ h => h) (Or.inl ⟨by rfl, ?_⟩) (by assumption) ?_
        rotate_left; focus (intro w hSw; (try dsimp only at hSw); go_simp; try with_reducible rfl)
        (try simp only [List.getElem_toArray, List.getElem_cons_succ, List.getElem_cons_zero, Act.put, List.setIfInBounds_toArray, List.set_cons_zero, List.set_cons_succ])
        refine wpAnyH_take (i := 14) (v := undef) rfl (by kernel_rfl) (by kernel_rfl) (by kernel_rfl) (fun _ _ _ h => h) (Or.inr ⟨by rfl, rfl⟩) (by assumption) ?_
        (try simp only [List.getElem_toArray, List.getElem_cons_succ, List.getElem_cons_zero, Act.put, List.setIfInBounds_toArray, List.set_cons_zero, List.set_cons_succ])
        refine wpAnyH_take (i := 15) (v := undef) rfl (by kernel_rfl) (by kernel_rfl) (by kernel_rfl) (fun _ _ _ h => h) (Or.inr ⟨by rfl, rfl⟩) (by assumption) ?_
        (try simp only [List.getElem_toArray, List.getElem_cons_succ, List.getElem_cons_zero, Act.put, List.setIfInBounds_toArray, List.set_cons_zero, List.set_cons_succ])
        refine wpAnyH_take (i := 16) (v := undef) rfl (by kernel_rfl) (by kernel_rfl) (by kernel_rfl) (fun _ _ _ h => h) (Or.inr ⟨by rfl, rfl⟩) (by assumption) ?_
        (try simp only [List.getElem_toArray, List.getElem_cons_succ, List.getElem_cons_zero, Act.put, List.setIfInBounds_toArray, List.set_cons_zero, List.set_cons_succ])
        refine wpAnyH_take (i := 17) (v := undef) rfl (by kernel_rfl) (by kernel_rfl) (by kernel_rfl) (fun _ _ _ h => h) (Or.inr ⟨by rfl, rfl⟩) (by assumption) ?_
        (try simp only [List.getElem_toArray, List.getElem_cons_succ, List.getElem_cons_zero, Act.put, List.setIfInBounds_toArray, List.set_cons_zero, List.set_cons_succ])
        refine wpAnyH_take (i := 18) (v := undef) rfl (by kernel_rfl) (by kernel_rfl) (by kernel_rfl) (fun _ _ _ h => h) (Or.inr ⟨by rfl, rfl⟩) (by assumption) ?_
        (try simp only [List.getElem_toArray, List.getElem_cons_succ, List.getElem_cons_zero, Act.put, List.setIfInBounds_toArray, List.set_cons_zero, List.set_cons_succ])
        refine wpAnyH_take (i := 19) (v := undef) rfl (by kernel_rfl) (by kernel_rfl) (by kernel_rfl) (fun _ _ _ h => h) (Or.inr ⟨by rfl, rfl⟩) (by assumption) ?_
        (try simp only [List.getElem_toArray, List.getElem_cons_succ, List.getElem_cons_zero, Act.put, List.setIfInBounds_toArray, List.set_cons_zero, List.set_cons_succ])
        refine wpAnyH_take (i := 20) (v := undef) rfl (by kernel_rfl) (by kernel_rfl) (by kernel_rfl) (fun _ _ _ h => h) (Or.inr ⟨by rfl, rfl⟩) (by assumption) ?_
        (try simp only [List.getElem_toArray, List.getElem_cons_succ, List.getElem_cons_zero, Act.put, List.setIfInBounds_toArray, List.set_cons_zero, List.set_cons_succ])
        refine wpAnyH_take (i := 21) (v := undef) rfl (by kernel_rfl) (by kernel_rfl) (by kernel_rfl) (fun _ _ _ h => h) (Or.inr ⟨by rfl, rfl⟩) (by assumption) ?_
        (try simp only [List.getElem_toArray, List.getElem_cons_succ, List.getElem_cons_zero, Act.put, List.setIfInBounds_toArray, List.set_cons_zero, List.set_cons_succ])
        refine wpAnyH_take (i := 22) (v := undef) rfl (by kernel_rfl) (by kernel_rfl) (by kernel_rfl) (fun _ _ _ h => h) (Or.inr ⟨by rfl, rfl⟩) (by assumption) ?_
        (try simp only [List.getElem_toArray, List.getElem_cons_succ, List.getElem_cons_zero, Act.put, List.setIfInBounds_toArray, List.set_cons_zero, List.set_cons_succ])
        refine wpAnyH_take (i := 23) (v := undef) rfl (by kernel_rfl) (by kernel_rfl) (by kernel_rfl) (fun _ _ _ h => h) (Or.inr ⟨by rfl, rfl⟩) (by assumption) ?_
        (try simp only [List.getElem_toArray, List.getElem_cons_succ, List.getElem_cons_zero, Act.put, List.setIfInBounds_toArray, List.set_cons_zero, List.set_cons_succ])
        refine wpAnyH_take (i := 24) (v := undef) rfl (by kernel_rfl) (by kernel_rfl) (by kernel_rfl) (fun _ _ _ h => h) (Or.inr ⟨by rfl, rfl⟩) (by assumption) ?_
        (try simp only [List.getElem_toArray, List.getElem_cons_succ, List.getElem_cons_zero, Act.put, List.setIfInBounds_toArray, List.set_cons_zero, List.set_cons_succ])
        refine wpAnyH_take (i := 25) (v := undef) rfl (by kernel_rfl) (by kernel_rfl) (by kernel_rfl) (fun _ _ _ h => h) (Or.inr ⟨by rfl, rfl⟩) (by assumption) ?_
        (try simp only [List.getElem_toArray, List.getElem_cons_succ, List.getElem_cons_zero, Act.put, List.setIfInBounds_toArray, List.set_cons_zero, List.set_cons_succ])
        refine wpAnyH_take (i := 26) (v := undef) rfl (by kernel_rfl) (by kernel_rfl) (by kernel_rfl) (fun _ _ _ h => h) (Or.inr ⟨by rfl, rfl⟩) (by assumption) ?_
        (try simp only [List.getElem_toArray, List.getElem_cons_succ, List.getElem_cons_zero, Act.put, List.setIfInBounds_toArray, List.set_cons_zero, List.set_cons_succ])
        refine wpAnyH_take (i := 27) (v := undef) rfl (by kernel_rfl) (by kernel_rfl) (by kernel_rfl) (fun _ _ _ h => h) (Or.inr ⟨by rfl, rfl⟩) (by assumption) ?_
        (try simp only [List.getElem_toArray, List.getElem_cons_succ, List.getElem_cons_zero, Act.put, List.setIfInBounds_toArray, List.set_cons_zero, List.set_cons_succ])
        refine wpAnyH_take (i := 28) (v := ?_) rfl (by kernel_rfl) (by kernel_rfl) (by kernel_rfl) (fun _ _ _ h => h) (Or.inl ⟨by rfl, ?_⟩) (by assumption) ?_
        rotate_left; focus (intro w hSw; (try dsimp only at hSw); go_simp; try with_reducible rfl)
        (try simp only [List.getElem_toArray, List.getElem_cons_succ, List.getElem_cons_zero, Act.put, List.setIfInBounds_toArray, List.set_cons_zero, List.set_cons_succ])
        refine wpAnyH_done (by kernel_rfl) ?_ _
        have hbH := hH.2
        clear hH
        go_wp2
        go_ret
        exact ⟨ret_bool hR.out.symm, hb1.trans ((hbel.trans (hbH.mono hs2)).mono hw0)⟩
      · cases q
        · have hR := Lib.hid (hno.out (by rw [hq.out]; simp))
          clear hyes hno hq
          go_wp2
          go_region_held3 (SB wr) (first | (with_reducible assumption) | (with_reducible exact SB.drew (by assumption)) | (with_reducible exact SB.below (by assumption) (by assumption))) (first | (go_at_call 10; (with_reducible refine (HCk.out _ (by exact (by assumption : SB wr _).2)).mono ?_); rintro e w3 ⟨rfl, hb3⟩))
          go_wp2
          go_ret
          exact ⟨ret_bool hR.out.symm, hb1.trans ((hbel.trans ((by assumption : SB wr _).2.mono hs2)).mono hw0)⟩
        · have hok2 := Lib.hid (hyes.out (by rw [hq.out]; simp [strEq, hb]))
          clear hyes hno hq
          go_wp2
          go_region_held3 (SB wr) (first | (with_reducible assumption) | (with_reducible exact SB.drew (by assumption)) | (with_reducible exact SB.below (by assumption) (by assumption))) (first | (go_at_call 10; (with_reducible refine (HCk.out _ (by exact (by assumption : SB wr _).2)).mono ?_); rintro e w3 ⟨rfl, hb3⟩))
          go_wp2
          go_roundw
          case rel => exact ⟨k + 1, by omega, by go_num, hbel.trans ((by assumption : SB wr _).2.mono hs2), hok2⟩
          case measure => simp [intOf]; omega
    · have hge : (vql : Int) ≤ (k : Int) := by omega
      have hnl : ¬ ((k : Int) < (vql : Int)) := by omega
      have HQY : Hid (eqL (sameQ n) ql ql' = true) := Lib.hid (eqL_yes _ _ _ LQI.out.2.2 (fun i h h' => hok.out i (by have := LQ.out; omega) h h'))
      have hb13 := Lib.hid hbel
      obtain ⟨wo, hwo⟩ : ∃ wo, wo = wr := ⟨_, rfl⟩
      subst hwo
      clear hok hbel hs2
      go_wp2
      go_loopw [6] (fun i W => ∃ j : Nat, j ≤ vkl ∧ i = .int .i64 j ∧ Below wo.heap.size wo W ∧ Hid (∀ i, i < j → (h : i < kl.length) → (h' : i < kl'.length) → sameE n kl[i] kl'[i] = true)) (fun i _ => vkl - (intOf i).toNat)
      case atStart => exact ⟨0, Nat.zero_le _, rfl, Below.refl _ _, fun i h => by omega⟩
      case round =>
        obtain ⟨j, hj, rfl, hbelW, hokj⟩ := hrel
        have hsW := hbelW.size
        have hbel2 : Below w1.heap.size w1 wr := hb13.out.trans (hbelW.mono hb13.out.size)
        have hs3 := hbel2.size
        have hA : ∀ o, wr.cell? ⟨w.heap.size, o, none⟩ = #[.int .i64 vop, .int .i64 vnum, .string vtx, .slice vpa vpl vpc, .slice vqa vql vqc, .bool vopn, .slice vka vkl vkc][o]? := fun o => (hbel2.cell (p := ⟨w.heap.size, o, none⟩) hl0).trans (cells_of NA.out o)
        have hU : ∀ o, wr.cell? ⟨w.heap.size + 1, o, none⟩ = #[.int .i64 vop, .int .i64 vnum, .string utx, .slice upa upl upc, .slice uqa vql uqc, .bool vopn, .slice uka vkl ukc][o]? := fun o => (hbel2.cell (p := ⟨w.heap.size + 1, o, none⟩) hl1).trans (cells_of NU.out o)
        have hr2 : w.heap.size < wr.heap.size := by omega
        have hr3 : w.heap.size + 1 < wr.heap.size := by omega
        by_cases hlt2 : j < vkl
        · have i1 : (0 : Int) ≤ (j : Int) := by omega
          have i2 : (j : Int) < (vkl : Int) := by omega
          have hk1 : j < kl.length := by have := LKI.out.1; omega
          have hk2 : j < kl'.length := by have := LKI.out.2.1; omega
          obtain ⟨g, off, rfl, hg, hc⟩ := HK.out.2.2 (by omega)
          obtain ⟨g', off', rfl, hg', hc'⟩ := HK'.out.2.2 (by omega)
          obtain ⟨v1, hE, hI⟩ := hc j hk1
          obtain ⟨u1, hE', hI'⟩ := hc' j hk2
          have hbw : Below w.heap.size w wr := hb1.trans (hbel2.mono hw0)
          have hg1 : g < wr.heap.size := by omega
          have hg2 : g' < wr.heap.size := by omega
          obtain ⟨d0, d1, d2, d3, d4, d5, d6⟩ := hE.kept (W' := wr) (fun o => hbw.cell (p := ⟨g, o, none⟩) (by show g < w.heap.size; omega))
          obtain ⟨f0, f1, f2, f3, f4, f5, f6⟩ := hE'.kept (W' := wr) (fun o => hbw.cell (p := ⟨g', o, none⟩) (by show g' < w.heap.size; omega))
          have HCk : Hid (∀ W, Below wr.heap.size wr W → Calls Tryd.prog 10 #[.agg #[.int .i64 v1.op, .int .i64 v1.num, .string v1.tx, .slice v1.pa v1.pl v1.pc, .slice v1.qa v1.ql v1.qc, .bool v1.opn, .slice v1.ka v1.kl v1.kc], .agg #[.int .i64 u1.op, .int .i64 u1.num, .string u1.tx, .slice u1.pa u1.pl u1.pc, .slice u1.qa u1.ql u1.qc, .bool u1.opn, .slice u1.ka u1.kl u1.kc]] W fun e w' => e = .returned (.bool (sameE n kl[j] kl'[j])) ∧ Below W.heap.size W w') :=
            Lib.hid (fun W hW => HD.out W B v1 u1 _ _ (by have := hW.size; omega) (ExIn.kept ((hbw.trans (hW.mono (by omega))).mono hB) n _ _ hI) (ExIn.kept ((hbw.trans (hW.mono (by omega))).mono hB) n _ _ hI'))
          have hyes : Hid (sameE n kl[j] kl'[j] = true → ∀ i, i < j + 1 → (h : i < kl.length) → (h' : i < kl'.length) → sameE n kl[i] kl'[i] = true) := Lib.hid (fun hr i hi h h2 => (Nat.lt_succ_iff_lt_or_eq.1 hi).elim (fun h' => hokj.out i h' h h2) (fun e => by subst e; exact hr))
          have hno : Hid (sameE n kl[j] kl'[j] = false → sameE (n + 1) x y = false) := Lib.hid (fun hr => by rw [S.out, eqL_no (sameE n) _ _ j hk1 hk2 hr]; simp)
          generalize sameE n kl[j] kl'[j] = q at HCk hyes hno
          have hS := SB.refl wr
          clear hc hc' hE hE' hI hI' hbw hokj
          cases q
          · have hR := Lib.hid (hno.out rfl)
            clear hyes hno
            go_wp2
            go_region_held3 (SB wr) (first | (with_reducible assumption) | (with_reducible exact SB.drew (by assumption)) | (with_reducible exact SB.below (by assumption) (by assumption))) (first | (go_at_call 10; (with_reducible refine (HCk.out _ (by exact (by assumption : SB wr _).2)).mono ?_); rintro e w3 ⟨rfl, hb3⟩))
            go_wp2
            go_ret
            exact ⟨ret_bool hR.out.symm, hb1.trans ((hbel2.trans ((by assumption : SB wr _).2.mono hs3)).mono hw0)⟩
          · have hok2 := Lib.hid (hyes.out rfl)
            clear hyes hno
            go_wp2
            go_region_held3 (SB wr) (first | (with_reducible assumption) | (with_reducible exact SB.drew (by assumption)) | (with_reducible exact SB.below (by assumption) (by assumption))) (first | (go_at_call 10; (with_reducible refine (HCk.out _ (by exact (by assumption : SB wr _).2)).mono ?_); rintro e w3 ⟨rfl, hb3⟩))
            go_wp2
            go_roundw
            case rel => exact ⟨j + 1, by omega, by go_num, hbelW.trans ((by assumption : SB wr _).2.mono hsW), hok2⟩
            case measure => simp [intOf]; omega
        · have hge : (vkl : Int) ≤ (j : Int) := by omega
          have hR : Hid (sameE (n + 1) x y = true) := Lib.hid (by rw [S.out, HQY.out, eqL_yes (sameE n) _ _ LKI.out.2.2 (fun i h h' => hokj.out i (by have := LK.out; omega) h h')]; simp [show strEq vtx utx = true from e3])
          clear hokj
          go_wp2
          go_ret
          exact ⟨ret_bool hR.out.symm, hb1.trans (hbel2.mono hw0)⟩
theorem sameR_ok : ∀ n, SameROk n
  | 0 => fun _ _ _ _ x => x.elim
  | n + 1 => sameR_succ n (Lib.hid (sameR_ok n))
end Go.Proofs.YtigdibglkejciaaDoor.Ex
