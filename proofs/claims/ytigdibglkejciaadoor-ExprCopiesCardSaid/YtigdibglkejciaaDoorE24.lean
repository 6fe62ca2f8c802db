/-
  Two expressions: are they the same? In the program: lists through Go's library.
-/
import Derived.Test.YtigdibglkejciaaDoorE23
namespace Go.Proofs.YtigdibglkejciaaDoor.Ex
open Go.RowKit Go
set_option linter.unusedSimpArgs false

theorem KidsIn.kept {n : Nat} {W W' : World} {B B' : Nat} {a : Option Addr} {len : Nat} {l : List (Ex n)} (h : KidsIn (ExIn W B n) W B a len l) (hb : Below B' W W') (hB : B ≤ B') : KidsIn (ExIn W' B n) W' B a len l :=
  ⟨h.1, h.2.1, fun hp => by
    obtain ⟨g, off, e, hg, hi⟩ := h.2.2 hp
    exact ⟨g, off, e, hg, fun i hlt => by
      obtain ⟨v, h1, h2⟩ := hi i hlt
      exact ⟨v, h1.kept (fun o => hb.cell (p := ⟨g, o, none⟩) (by show g < _; omega)), ExIn.kept (hb.mono hB) n _ _ h2⟩⟩⟩
theorem PairsIn.kept {n : Nat} {W W' : World} {B B' : Nat} {a : Option Addr} {len : Nat} {l : List (ByteArray × Ex n)} (h : PairsIn (ExIn W B n) W B a len l) (hb : Below B' W W') (hB : B ≤ B') : PairsIn (ExIn W' B n) W' B a len l :=
  ⟨h.1, h.2.1, fun hp => by
    obtain ⟨g, off, e, hg, hi⟩ := h.2.2 hp
    exact ⟨g, off, e, hg, fun i hlt => by
      obtain ⟨v, h0, h1, h2⟩ := hi i hlt
      exact ⟨v, (hb.cell (p := ⟨g, _, none⟩) (by show g < _; omega)).trans h0, h1.kept (fun o => hb.cell (p := ⟨g, o, none⟩) (by show g < _; omega)), ExIn.kept (hb.mono hB) n _ _ h2⟩⟩⟩
def SameOk (n : Nat) : Prop := ∀ (w : World) (B : Nat) (v u : V7) (x y : Ex n), B ≤ w.heap.size → ExIn w B n v x → ExIn w B n u y → Calls Tryd.prog 24 #[.agg #[.int .i64 v.op, .int .i64 v.num, .string v.tx, .slice v.pa v.pl v.pc, .slice v.qa v.ql v.qc, .bool v.opn, .slice v.ka v.kl v.kc], .agg #[.int .i64 u.op, .int .i64 u.num, .string u.tx, .slice u.pa u.pl u.pc, .slice u.qa u.ql u.qc, .bool u.opn, .slice u.ka u.kl u.kc]] w fun e w' => e = .returned (.bool (sameE n x y)) ∧ Below w.heap.size w w'
set_option maxHeartbeats 4000000 in
theorem pair_same (n : Nat) (HD : Hid (SameOk n)) (w : World) (B : Nat) (v u : V7) (p q : ByteArray × Ex n) (hB : B ≤ w.heap.size) (hx : ExIn w B n v p.2) (hy : ExIn w B n u q.2) : Calls Tryd.prog 44 #[.agg #[.string p.1, .int .i64 v.op, .int .i64 v.num, .string v.tx, .slice v.pa v.pl v.pc, .slice v.qa v.ql v.qc, .bool v.opn, .slice v.ka v.kl v.kc], .agg #[.string q.1, .int .i64 u.op, .int .i64 u.num, .string u.tx, .slice u.pa u.pl u.pc, .slice u.qa u.ql u.qc, .bool u.opn, .slice u.ka u.kl u.kc]] w fun e w' => e = .returned (.bool (sameQ n p q)) ∧ Below w.heap.size w w' := by
  obtain ⟨p1, p2⟩ := p
  obtain ⟨q1, q2⟩ := q
  simp only at hx hy ⊢
  have hS : Hid (sameQ n (p1, p2) (q1, q2) = (strEq p1 q1 && sameE n p2 q2)) := Lib.hid rfl
  have hb1 : Below w.heap.size w ((w.alloc (.cells #[.string p1, .int .i64 v.op, .int .i64 v.num, .string v.tx, .slice v.pa v.pl v.pc, .slice v.qa v.ql v.qc, .bool v.opn, .slice v.ka v.kl v.kc] 46)).alloc (.cells #[.string q1, .int .i64 u.op, .int .i64 u.num, .string u.tx, .slice u.pa u.pl u.pc, .slice u.qa u.ql u.qc, .bool u.opn, .slice u.ka u.kl u.kc] 46)) := (bel1 _ _).trans ((bel1 _ _).mono (by simp))
  have HC := Lib.hid (HD.out _ B v u p2 q2 (by have := hb1.size; omega) (ExIn.kept (hb1.mono hB) n _ _ hx) (ExIn.kept (hb1.mono hB) n _ _ hy))
  have hs1 := hb1.size
  generalize sameE n p2 q2 = r at hS HC
  clear hx hy
  cases hb : (p1.toList == q1.toList)
  · have hR : Hid (sameQ n (p1, p2) (q1, q2) = false) := Lib.hid (by rw [hS.out]; simp [strEq, hb])
    go_enter Tryd.func44, Tryd.ntmps44
    go_wp2
    go_ret
    exact ⟨ret_bool hR.out.symm, hb1⟩
  · have hR : Hid (sameQ n (p1, p2) (q1, q2) = r) := Lib.hid (by rw [hS.out]; simp [strEq, hb])
    go_enter Tryd.func44, Tryd.ntmps44
    go_wp2_with (go_at_call 24; (with_reducible refine HC.out.mono ?_); rintro e w2 ⟨rfl, hb2⟩)
    go_ret
    exact ⟨ret_bool hR.out.symm, hb1.trans (hb2.mono hs1)⟩
set_option maxHeartbeats 4000000 in
theorem kids_same (n : Nat) (HD : Hid (SameOk n)) (w : World) (B : Nat) (a a' : Option Addr) (len len' c c' : Nat) (l l' : List (Ex n)) (hB : B ≤ w.heap.size) (hl : KidsIn (ExIn w B n) w B a len l) (hl' : KidsIn (ExIn w B n) w B a' len' l') : Calls Tryd.prog 45 #[.slice a len c, .slice a' len' c', .func (.func 24) #[] #[]] w fun e w' => e = .returned (.bool (eqL (sameE n) l l')) ∧ Below w.heap.size w w' := by
  have HQ := Lib.hid hl
  have HQ' := Lib.hid hl'
  have LQ := Lib.hid hl.1
  have LQ' := Lib.hid hl'.1
  clear hl hl'
  by_cases e6 : len = len'
  rotate_left
  · have hR : Hid (eqL (sameE n) l l' = false) := Lib.hid (eqL_len (sameE n) _ _ (by have := LQ.out; have := LQ'.out; omega))
    have e6' : ((len : Int) != (len' : Int)) = true := by simpa using (fun h => e6 (by omega) : (len : Int) ≠ len')
    clear e6
    go_enter Tryd.func45, Tryd.ntmps45
    go_wp2
    go_ret
    exact ⟨ret_bool hR.out.symm, Below.refl _ _⟩
  subst e6
  have LQI : Hid (len ≤ l.length ∧ len ≤ l'.length ∧ l.length = l'.length) := Lib.hid (by have := LQ.out; have := LQ'.out; omega)
  have hm3 : len ≤ 9223372036854775807 := by have := LQ.out; have := HQ.out.2.1; unfold maxLen at this; omega
  go_enter Tryd.func45, Tryd.ntmps45
  go_wp2
  go_loopw [17] (fun i wr => ∃ k : Nat, k ≤ len ∧ i = .int .i64 k ∧ Below w.heap.size w wr ∧ Hid (∀ i, i < k → (h : i < l.length) → (h' : i < l'.length) → sameE n l[i] l'[i] = true)) (fun i _ => len - (intOf i).toNat)
  case atStart => exact ⟨0, Nat.zero_le _, rfl, Below.refl _ _, fun i h => by omega⟩
  case round =>
    obtain ⟨k, hk, rfl, hbel, hok⟩ := hrel
    have hs2 := hbel.size
    by_cases hlt : k < len
    · have i1 : (0 : Int) ≤ (k : Int) := by omega
      have i2 : (k : Int) < (len : Int) := by omega
      have hk1 : k < l.length := by have := LQI.out.1; omega
      have hk2 : k < l'.length := by have := LQI.out.2.1; omega
      obtain ⟨g, off, rfl, hg, hc⟩ := HQ.out.2.2 (by omega)
      obtain ⟨g', off', rfl, hg', hc'⟩ := HQ'.out.2.2 (by omega)
      obtain ⟨v1, hE, hI⟩ := hc k hk1
      obtain ⟨u1, hE', hI'⟩ := hc' k hk2
      obtain ⟨d0, d1, d2, d3, d4, d5, d6⟩ := hE.kept (W' := wr) (fun o => hbel.cell (p := ⟨g, o, none⟩) (by show g < w.heap.size; omega))
      obtain ⟨f0, f1, f2, f3, f4, f5, f6⟩ := hE'.kept (W' := wr) (fun o => hbel.cell (p := ⟨g', o, none⟩) (by show g' < w.heap.size; omega))
      have hg1 : g < wr.heap.size := by omega
      have hg2 : g' < wr.heap.size := by omega
      have hb3 : Below wr.heap.size wr ((wr.alloc (.cells #[.int .i64 v1.op, .int .i64 v1.num, .string v1.tx, .slice v1.pa v1.pl v1.pc, .slice v1.qa v1.ql v1.qc, .bool v1.opn, .slice v1.ka v1.kl v1.kc] 26)).alloc (.cells #[.int .i64 u1.op, .int .i64 u1.num, .string u1.tx, .slice u1.pa u1.pl u1.pc, .slice u1.qa u1.ql u1.qc, .bool u1.opn, .slice u1.ka u1.kl u1.kc] 26)) := (bel1 _ _).trans ((bel1 _ _).mono (by simp))
      have hb4 := hbel.trans (hb3.mono hs2)
      have HCk := Lib.hid (HD.out _ B v1 u1 l[k] l'[k] (by have := hb4.size; omega) (ExIn.kept (hb4.mono hB) n _ _ hI) (ExIn.kept (hb4.mono hB) n _ _ hI'))
      have hyes : Hid (sameE n l[k] l'[k] = true → ∀ i, i < k + 1 → (h : i < l.length) → (h' : i < l'.length) → sameE n l[i] l'[i] = true) := Lib.hid (fun hr i hi h h2 => (Nat.lt_succ_iff_lt_or_eq.1 hi).elim (fun h' => hok.out i h' h h2) (fun e => by subst e; exact hr))
      have hno : Hid (sameE n l[k] l'[k] = false → eqL (sameE n) l l' = false) := Lib.hid (fun hr => eqL_no (sameE n) _ _ k hk1 hk2 hr)
      generalize sameE n l[k] l'[k] = q at HCk hyes hno
      have hs3 := hb4.size


      clear hc hc' hE hE' hI hI' hok 
      cases q
      · have hR := Lib.hid (hno.out rfl)
        clear hyes hno
        go_wp2_with (go_at_call 24; (with_reducible refine HCk.out.mono ?_); rintro e w3 ⟨rfl, hb5⟩)
        go_ret
        exact ⟨ret_bool hR.out.symm, hb4.trans (hb5.mono hs3)⟩
      · have hok2 := Lib.hid (hyes.out rfl)
        clear hyes hno
        go_wp2_with (go_at_call 24; (with_reducible refine HCk.out.mono ?_); rintro e w3 ⟨rfl, hb5⟩)
        go_roundw
        case rel => exact ⟨k + 1, by omega, by go_num, hb4.trans (hb5.mono hs3), hok2⟩
        case measure => simp [intOf]; omega
    · have hge : (len : Int) ≤ (k : Int) := by omega
      have hR : Hid (eqL (sameE n) l l' = true) := Lib.hid (eqL_yes (sameE n) _ _ LQI.out.2.2 (fun i h h' => hok.out i (by have := LQ.out; omega) h h'))
      clear hok
      go_wp2
      go_ret
      exact ⟨ret_bool hR.out.symm, hbel⟩
set_option maxHeartbeats 4000000 in
theorem pairs_same (n : Nat) (HD : Hid (SameOk n)) (w : World) (B : Nat) (a a' : Option Addr) (len len' c c' : Nat) (l l' : List (ByteArray × Ex n)) (hB : B ≤ w.heap.size) (hl : PairsIn (ExIn w B n) w B a len l) (hl' : PairsIn (ExIn w B n) w B a' len' l') : Calls Tryd.prog 43 #[.slice a len c, .slice a' len' c', .func (.func 44) #[] #[]] w fun e w' => e = .returned (.bool (eqL (sameQ n) l l')) ∧ Below w.heap.size w w' := by
  have HQ := Lib.hid hl
  have HQ' := Lib.hid hl'
  have LQ := Lib.hid hl.1
  have LQ' := Lib.hid hl'.1
  clear hl hl'
  by_cases e6 : len = len'
  rotate_left
  · have hR : Hid (eqL (sameQ n) l l' = false) := Lib.hid (eqL_len (sameQ n) _ _ (by have := LQ.out; have := LQ'.out; omega))
    have e6' : ((len : Int) != (len' : Int)) = true := by simpa using (fun h => e6 (by omega) : (len : Int) ≠ len')
    clear e6
    go_enter Tryd.func43, Tryd.ntmps43
    go_wp2
    go_ret
    exact ⟨ret_bool hR.out.symm, Below.refl _ _⟩
  subst e6
  have LQI : Hid (len ≤ l.length ∧ len ≤ l'.length ∧ l.length = l'.length) := Lib.hid (by have := LQ.out; have := LQ'.out; omega)
  have hm3 : len ≤ 9223372036854775807 := by have := LQ.out; have := HQ.out.2.1; unfold maxLen at this; omega
  go_enter Tryd.func43, Tryd.ntmps43
  go_wp2
  go_loopw [17] (fun i wr => ∃ k : Nat, k ≤ len ∧ i = .int .i64 k ∧ Below w.heap.size w wr ∧ Hid (∀ i, i < k → (h : i < l.length) → (h' : i < l'.length) → sameQ n l[i] l'[i] = true)) (fun i _ => len - (intOf i).toNat)
  case atStart => exact ⟨0, Nat.zero_le _, rfl, Below.refl _ _, fun i h => by omega⟩
  case round =>
    obtain ⟨k, hk, rfl, hbel, hok⟩ := hrel
    have hs2 := hbel.size
    by_cases hlt : k < len
    · have i1 : (0 : Int) ≤ (k : Int) := by omega
      have i2 : (k : Int) < (len : Int) := by omega
      have hk1 : k < l.length := by have := LQI.out.1; omega
      have hk2 : k < l'.length := by have := LQI.out.2.1; omega
      obtain ⟨g, off, rfl, hg, hc⟩ := HQ.out.2.2 (by omega)
      obtain ⟨g', off', rfl, hg', hc'⟩ := HQ'.out.2.2 (by omega)
      obtain ⟨v1, hcn, hE, hI⟩ := hc k hk1
      obtain ⟨u1, hcn', hE', hI'⟩ := hc' k hk2
      have cn : wr.cell? ⟨g, off + k * 8, none⟩ = _ := (hbel.cell (p := ⟨g, _, none⟩) (by show g < w.heap.size; omega)).trans hcn
      have cn' : wr.cell? ⟨g', off' + k * 8, none⟩ = _ := (hbel.cell (p := ⟨g', _, none⟩) (by show g' < w.heap.size; omega)).trans hcn'
      obtain ⟨d0, d1, d2, d3, d4, d5, d6⟩ := hE.kept (W' := wr) (fun o => hbel.cell (p := ⟨g, o, none⟩) (by show g < w.heap.size; omega))
      obtain ⟨f0, f1, f2, f3, f4, f5, f6⟩ := hE'.kept (W' := wr) (fun o => hbel.cell (p := ⟨g', o, none⟩) (by show g' < w.heap.size; omega))
      have hg1 : g < wr.heap.size := by omega
      have hg2 : g' < wr.heap.size := by omega
      have hb3 : Below wr.heap.size wr ((wr.alloc (.cells #[.string l[k].1, .int .i64 v1.op, .int .i64 v1.num, .string v1.tx, .slice v1.pa v1.pl v1.pc, .slice v1.qa v1.ql v1.qc, .bool v1.opn, .slice v1.ka v1.kl v1.kc] 46)).alloc (.cells #[.string l'[k].1, .int .i64 u1.op, .int .i64 u1.num, .string u1.tx, .slice u1.pa u1.pl u1.pc, .slice u1.qa u1.ql u1.qc, .bool u1.opn, .slice u1.ka u1.kl u1.kc] 46)) := (bel1 _ _).trans ((bel1 _ _).mono (by simp))
      have hb4 := hbel.trans (hb3.mono hs2)
      have HCk := Lib.hid (pair_same n HD _ B v1 u1 l[k] l'[k] (by have := hb4.size; omega) (ExIn.kept (hb4.mono hB) n _ _ hI) (ExIn.kept (hb4.mono hB) n _ _ hI'))
      have hyes : Hid (sameQ n l[k] l'[k] = true → ∀ i, i < k + 1 → (h : i < l.length) → (h' : i < l'.length) → sameQ n l[i] l'[i] = true) := Lib.hid (fun hr i hi h h2 => (Nat.lt_succ_iff_lt_or_eq.1 hi).elim (fun h' => hok.out i h' h h2) (fun e => by subst e; exact hr))
      have hno : Hid (sameQ n l[k] l'[k] = false → eqL (sameQ n) l l' = false) := Lib.hid (fun hr => eqL_no (sameQ n) _ _ k hk1 hk2 hr)
      generalize sameQ n l[k] l'[k] = q at HCk hyes hno
      have hs3 := hb4.size
      generalize l[k].1 = nm at cn hb3 hb4 HCk hs3
      generalize l'[k].1 = nm' at cn' hb3 hb4 HCk hs3
      clear hc hc' hE hE' hI hI' hok hcn hcn'
      cases q
      · have hR := Lib.hid (hno.out rfl)
        clear hyes hno
        go_wp2_with (go_at_call 44; (with_reducible refine HCk.out.mono ?_); rintro e w3 ⟨rfl, hb5⟩)
        go_ret
        exact ⟨ret_bool hR.out.symm, hb4.trans (hb5.mono hs3)⟩
      · have hok2 := Lib.hid (hyes.out rfl)
        clear hyes hno
        go_wp2_with (go_at_call 44; (with_reducible refine HCk.out.mono ?_); rintro e w3 ⟨rfl, hb5⟩)
        go_roundw
        case rel => exact ⟨k + 1, by omega, by go_num, hb4.trans (hb5.mono hs3), hok2⟩
        case measure => simp [intOf]; omega
    · have hge : (len : Int) ≤ (k : Int) := by omega
      have hR : Hid (eqL (sameQ n) l l' = true) := Lib.hid (eqL_yes (sameQ n) _ _ LQI.out.2.2 (fun i h h' => hok.out i (by have := LQ.out; omega) h h'))
      clear hok
      go_wp2
      go_ret
      exact ⟨ret_bool hR.out.symm, hbel⟩
end Go.Proofs.YtigdibglkejciaaDoor.Ex
