/-
  Is an expression right? In the program.
-/
import Derived.Test.YtigdibglkejciaaDoorE28
namespace Go.Proofs.YtigdibglkejciaaDoor.Ex
open Go.RowKit Go
set_option linter.unusedSimpArgs false

/-- Right. -/
def rightE : (n : Nat) → Ex n → Bool
  | 0, x => x.elim
  | n + 1, x => shapeE x && (partsE n x).all (rightE n)
theorem rightE_succ (n : Nat) (x : Ex (n + 1)) : rightE (n + 1) x = (shapeE x && (partsE n x).all (rightE n)) := rfl
def RightOk (n : Nat) : Prop := ∀ (w : World) (B : Nat) (v : V7) (x : Ex n) (d : Nat), B ≤ w.heap.size → Words w → SmallE n d x → ExIn w B n v x → Calls Tryd.prog 17 #[.agg #[.int .i64 v.op, .int .i64 v.num, .string v.tx, .slice v.pa v.pl v.pc, .slice v.qa v.ql v.qc, .bool v.opn, .slice v.ka v.kl v.kc]] w fun e w' => e = .returned (.bool (rightE n x)) ∧ Below w.heap.size w w'
theorem all_no {α : Type} (f : α → Bool) (l : List α) (i : Nat) (h : i < l.length) (e : f l[i] = false) : l.all f = false := by
  rw [List.all_eq_false]; exact ⟨l[i], List.getElem_mem h, by simp [e]⟩
theorem all_yes {α : Type} (f : α → Bool) (l : List α) (e : ∀ i (h : i < l.length), f l[i] = true) : l.all f = true := by
  rw [List.all_eq_true]; intro x hx; obtain ⟨i, h, rfl⟩ := List.getElem_of_mem hx; exact e i h
/-- Not right: the closure. -/
theorem wrong_any (n : Nat) (HD : Hid (RightOk n)) (w : World) (B : Nat) (v : V7) (x : Ex n) (d : Nat) (hB : B ≤ w.heap.size) (hW : Words w) (hs : SmallE n d x) (hx : ExIn w B n v x) : Calls Tryd.prog 36 #[.agg #[.int .i64 v.op, .int .i64 v.num, .string v.tx, .slice v.pa v.pl v.pc, .slice v.qa v.ql v.qc, .bool v.opn, .slice v.ka v.kl v.kc]] w fun e w' => e = .returned (.bool (!rightE n x)) ∧ Below w.heap.size w w' := by
  have hp0 := hW.pos
  have hb1 := bel1 w (.cells #[.int .i64 v.op, .int .i64 v.num, .string v.tx, .slice v.pa v.pl v.pc, .slice v.qa v.ql v.qc, .bool v.opn, .slice v.ka v.kl v.kc] 26)
  have hs1 := hb1.size
  have HC := Lib.hid (HD.out _ B v x d (by omega) (hW.below hb1 hp0) hs (ExIn.kept (hb1.mono hB) n _ _ hx))
  generalize rightE n x = b at HC
  clear hs hx hW
  go_enter Tryd.func36, Tryd.ntmps36
  go_wp2_with (go_at_call 17; (with_reducible refine HC.out.mono ?_); rintro e w2 ⟨rfl, hb2⟩)
  go_ret
  exact ⟨rfl, hb1.trans (hb2.mono hs1)⟩
set_option maxHeartbeats 4000000 in
/-- Where the first lies that is not right. -/
theorem index_any (n : Nat) (HD : Hid (RightOk n)) (w : World) (B : Nat) (a : Option Addr) (c : Nat) (l : List (Ex n)) (d : Nat) (hB : B ≤ w.heap.size) (hW : Words w) (hs : ∀ i (h : i < l.length), SmallE n d l[i]) (hl : KidsIn (ExIn w B n) w w.heap.size a l.length l) : Calls Tryd.prog 50 #[.slice a l.length c, .func (.func 36) #[] #[]] w fun e w' => (∃ r : Int, e = .returned (.int .i64 r) ∧ decide (0 ≤ r) = !l.all (rightE n)) ∧ Below w.heap.size w w' := by
  have HW := Lib.hid hW
  have hp0 := hW.pos
  have HL := Lib.hid hl
  have HS := Lib.hid hs
  have hm3 : l.length ≤ 9223372036854775807 := by have := hl.2.1; unfold maxLen at this; omega
  clear hl hW hs
  go_enter Tryd.func50, Tryd.ntmps50
  go_wp2
  go_loopw [8] (fun i wr => ∃ k : Nat, k ≤ l.length ∧ i = .int .i64 k ∧ Below w.heap.size w wr ∧ Hid (∀ i, i < k → (h : i < l.length) → rightE n l[i] = true)) (fun i _ => l.length - (intOf i).toNat)
  case atStart => exact ⟨0, Nat.zero_le _, rfl, Below.refl _ _, fun i h => by omega⟩
  case round =>
    obtain ⟨k, hk, rfl, hbel, hok⟩ := hrel
    have hs2 := hbel.size
    by_cases hlt : k < l.length
    · obtain ⟨g, off, rfl, hg, hc⟩ := HL.out.2.2 (by omega)
      obtain ⟨v1, hE, hI⟩ := hc k hlt
      obtain ⟨d0, d1, d2, d3, d4, d5, d6⟩ := hE.kept (W' := wr) (fun o => hbel.cell (p := ⟨g, o, none⟩) hg)
      have i1 : (0 : Int) ≤ (k : Int) := by omega
      have i2 : (k : Int) < (l.length : Int) := by omega
      have HC := Lib.hid (wrong_any n HD wr B v1 l[k] d (by omega) (HW.out.below hbel hp0) (HS.out k hlt) (ExIn.kept (hbel.mono hB) n _ _ hI))
      have hyes : Hid (rightE n l[k] = true → ∀ i, i < k + 1 → (h : i < l.length) → rightE n l[i] = true) := Lib.hid (fun hr i hi h => (Nat.lt_succ_iff_lt_or_eq.1 hi).elim (fun h' => hok.out i h' h) (fun e => by subst e; exact hr))
      have hno : Hid (rightE n l[k] = false → l.all (rightE n) = false) := Lib.hid (fun hr => all_no _ _ k hlt hr)
      generalize rightE n l[k] = b at HC hyes hno
      clear hc hE hI hok
      cases b
      · have hR := Lib.hid (hno.out rfl)
        clear hyes hno
        go_wp2_with (go_at_call 36; (with_reducible refine HC.out.mono ?_); rintro e w2 ⟨rfl, hb2⟩)
        go_ret
        exact ⟨⟨k, rfl, by rw [hR.out]; simp⟩, hbel.trans (hb2.mono hs2)⟩
      · have hok2 := Lib.hid (hyes.out rfl)
        clear hyes hno
        go_wp2_with (go_at_call 36; (with_reducible refine HC.out.mono ?_); rintro e w2 ⟨rfl, hb2⟩)
        go_roundw
        case rel => exact ⟨k + 1, by omega, by go_num, hbel.trans (hb2.mono hs2), hok2⟩
        case measure => simp [intOf]; omega
    · have hge : (l.length : Int) ≤ (k : Int) := by omega
      have hR : Hid (l.all (rightE n) = true) := Lib.hid (all_yes _ _ (fun i h => hok.out i (by omega) h))
      clear hok
      go_wp2
      go_ret
      exact ⟨⟨-1, rfl, by rw [hR.out]; rfl⟩, hbel⟩
theorem contains_any (n : Nat) (HD : Hid (RightOk n)) (w : World) (B : Nat) (a : Option Addr) (c : Nat) (l : List (Ex n)) (d : Nat) (hB : B ≤ w.heap.size) (hW : Words w) (hs : ∀ i (h : i < l.length), SmallE n d l[i]) (hl : KidsIn (ExIn w B n) w w.heap.size a l.length l) : Calls Tryd.prog 34 #[.slice a l.length c, .func (.func 36) #[] #[]] w fun e w' => e = .returned (.bool (!l.all (rightE n))) ∧ Below w.heap.size w w' := by
  have HC := Lib.hid (index_any n HD w B a c l d hB hW hs hl)
  generalize l.all (rightE n) = b at HC
  clear hl hW hs
  go_enter Tryd.func34, Tryd.ntmps34
  go_wp2_with (go_at_call 50; (with_reducible refine HC.out.mono ?_); rintro e w2 ⟨⟨r, rfl, hr⟩, hb2⟩; have HR := Lib.hid hr; clear hr)
  go_ret
  exact ⟨ret_bool HR.out, hb2⟩
set_option maxRecDepth 100000 in
set_option maxHeartbeats 4000000 in
theorem right_succ (n : Nat) (HD : Hid (RightOk n)) : RightOk (n + 1) := by
  intro w B v x d hB hW hsm hx
  have hp0 := hW.pos
  have hb1 := bel1 w (.cells #[.int .i64 v.op, .int .i64 v.num, .string v.tx, .slice v.pa v.pl v.pc, .slice v.qa v.ql v.qc, .bool v.opn, .slice v.ka v.kl v.kc] 26)
  have hs1 := hb1.size
  have NA := Lib.hid (new_cells w #[.int .i64 v.op, .int .i64 v.num, .string v.tx, .slice v.pa v.pl v.pc, .slice v.qa v.ql v.qc, .bool v.opn, .slice v.ka v.kl v.kc] 26)
  have hl0 : w.heap.size < (w.alloc (.cells #[.int .i64 v.op, .int .i64 v.num, .string v.tx, .slice v.pa v.pl v.pc, .slice v.qa v.ql v.qc, .bool v.opn, .slice v.ka v.kl v.kc] 26)).heap.size := by simp
  have HC := Lib.hid (shaped_any n B v x _ (by omega) (hW.below hb1 hp0) (ExIn.kept (hb1.mono hB) (n + 1) _ _ hx))
  have S := Lib.hid (rightE_succ n x)
  have HPS := Lib.hid (parts_small hsm)
  have HW := Lib.hid hW
  have HP : Hid (∀ W, Below w.heap.size w W → Calls Tryd.prog 35 #[.agg #[.int .i64 v.op, .int .i64 v.num, .string v.tx, .slice v.pa v.pl v.pc, .slice v.qa v.ql v.qc, .bool v.opn, .slice v.ka v.kl v.kc]] W (PartsPost n B x W)) := Lib.hid (fun W h => parts_any n W B v x (by have := h.size; omega) (ExIn.kept (h.mono hB) (n + 1) _ _ hx) hsm.2.2.2.1)
  clear hsm hx hW
  generalize shapeE x = b at HC S
  cases b
  · have hR : Hid (rightE (n + 1) x = false) := Lib.hid (by rw [S.out]; rfl)
    go_enter Tryd.func17, Tryd.ntmps17
    go_wp2_with (go_at_call 33; (with_reducible refine HC.out.mono ?_); rintro e w2 ⟨rfl, hb2⟩)
    go_ret
    exact ⟨ret_bool hR.out.symm, hb1.trans (hb2.mono hs1)⟩
  · go_enter Tryd.func17, Tryd.ntmps17
    go_wp2_with (first
      | (go_at_call 33; (with_reducible refine HC.out.mono ?_); rintro e w2 ⟨rfl, hb2⟩; have hs2 := hb2.size; have hA : ∀ o, w2.cell? ⟨w.heap.size, o, none⟩ = #[.int .i64 v.op, .int .i64 v.num, .string v.tx, .slice v.pa v.pl v.pc, .slice v.qa v.ql v.qc, .bool v.opn, .slice v.ka v.kl v.kc][o]? := fun o => (hb2.cell (p := ⟨w.heap.size, o, none⟩) hl0).trans (cells_of NA.out o); have hb12 := hb1.trans (hb2.mono hs1))
      | (go_at_call 35; (with_reducible refine (HP.out _ hb12).mono ?_); rintro e w3 ⟨a3, c3, rfl, hb3, hK, -⟩; have hs3 := hb12.size; have hb13 := hb12.trans (hb3.mono hs3); have HC2 := Lib.hid (contains_any n HD w3 B a3 c3 _ (d - 1) (by have := hb13.size; omega) (HW.out.below hb13 hp0) HPS.out.2 hK); clear hK)
      | (go_at_call 34; (with_reducible refine HC2.out.mono ?_); rintro e w4 ⟨rfl, hb4⟩))
    go_ret
    exact ⟨ret_bool (by rw [S.out]; simp), hb13.trans (hb4.mono hb13.size)⟩
theorem right_ok : ∀ n, RightOk n
  | 0 => fun _ _ _ x => x.elim
  | n + 1 => right_succ n (Lib.hid (right_ok n))
end Go.Proofs.YtigdibglkejciaaDoor.Ex
