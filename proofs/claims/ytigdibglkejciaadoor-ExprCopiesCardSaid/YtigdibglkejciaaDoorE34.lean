/-
  The walk over all expressions, as an iterator.
-/
import Derived.Test.YtigdibglkejciaaDoorE33
namespace Go.Proofs.YtigdibglkejciaaDoor.Ex
open Go.RowKit Go
set_option linter.unusedSimpArgs false
attribute [local go_sem] Oper.semAt_some

/-- What a round keeps for the walk: what lies below block B, and all blocks of expressions. -/
def K26 (B : Nat) (W W' : World) : Prop := Below B W W' ∧ ∀ g : Nat, (∃ (c : Array Value) (f : Nat × Nat), W.heap[g]? = some (Obj.cells c 26 f)) → W'.heap[g]? = W.heap[g]?
theorem K26.trans {B : Nat} {a b c : World} (h : K26 B a b) (k : K26 B b c) : K26 B a c :=
  ⟨h.1.trans k.1, fun g hg => (k.2 g (by obtain ⟨x, y, e⟩ := hg; exact ⟨x, y, (h.2 g ⟨x, y, e⟩).trans e⟩)).trans (h.2 g hg)⟩
theorem K26.of {B : Nat} {a b : World} (h : Below a.heap.size a b) (hB : B ≤ a.heap.size) : K26 B a b :=
  ⟨h.mono hB, fun g hg => h.block g (by obtain ⟨x, y, e⟩ := hg; exact (Array.getElem?_eq_some_iff.1 e).1)⟩
theorem K26.refl (B : Nat) (a : World) : K26 B a a := ⟨Below.refl _ _, fun _ _ => rfl⟩
theorem K26.cell {B : Nat} {a b : World} (h : K26 B a b) {g : Nat} (hg : g < B ∨ ∃ (c : Array Value) (f : Nat × Nat), a.heap[g]? = some (Obj.cells c 26 f)) (o : Nat) : b.cell? ⟨g, o, none⟩ = a.cell? ⟨g, o, none⟩ := by
  rcases hg with hg | hg
  · exact h.1.cell (p := ⟨g, o, none⟩) hg
  · exact World.cell?_of_block (w := a) (h.2 g hg)
/-- The same cells below B: the same expressions. -/
theorem ExIn.cells {W W' : World} {B : Nat} (hb : ∀ g o, g < B → W'.cell? ⟨g, o, none⟩ = W.cell? ⟨g, o, none⟩) : ∀ (n : Nat) (v : V7) (x : Ex n), ExIn W B n v x → ExIn W' B n v x
  | 0, _, x, _ => x.elim
  | n + 1, v, x, h => by
    obtain ⟨h1, h2, h3, h4, h5, h6, h7⟩ := h
    refine ⟨h1, h2, h3, h4, ⟨h5.1, h5.2.1, fun hp => ?_⟩, ⟨h6.1, h6.2.1, fun hp => ?_⟩, ⟨h7.1, h7.2.1, fun hp => ?_⟩⟩
    · obtain ⟨g, off, e, hg, hi⟩ := h5.2.2 hp
      exact ⟨g, off, e, hg, fun i hlt => (hb g _ hg).trans (hi i hlt)⟩
    · obtain ⟨g, off, e, hg, hi⟩ := h6.2.2 hp
      refine ⟨g, off, e, hg, fun i hlt => ?_⟩
      obtain ⟨v', a, b, c⟩ := hi i hlt
      exact ⟨v', (hb g _ hg).trans a, b.kept (fun x => hb g x hg), ExIn.cells hb n _ _ c⟩
    · obtain ⟨g, off, e, hg, hi⟩ := h7.2.2 hp
      refine ⟨g, off, e, hg, fun i hlt => ?_⟩
      obtain ⟨v', b, c⟩ := hi i hlt
      exact ⟨v', b.kept (fun x => hb g x hg), ExIn.cells hb n _ _ c⟩
/-- What is told as item k of a list. -/
def Told (W0 : World) (B : Nat) (full : List AE) (k : Nat) (xs : Array Value) : Prop := ∃ (v : V7) (y : AE), full[k]? = some y ∧ xs = #[.agg #[.int .i64 v.op, .int .i64 v.num, .string v.tx, .slice v.pa v.pl v.pc, .slice v.qa v.ql v.qc, .bool v.opn, .slice v.ka v.kl v.kc]] ∧ ExIn W0 B y.1 v y.2
/-- How many there are ahead of part k. -/
def posL (n : Nat) (L : List (Ex n)) (k : Nat) : Nat := ((L.take k).flatMap (allE n)).length
theorem posL_succ (n : Nat) (L : List (Ex n)) (k : Nat) (h : k < L.length) : posL n L (k + 1) = posL n L k + (allE n L[k]).length := by
  unfold posL; rw [List.take_succ_eq_append_getElem h, List.flatMap_append, List.length_append]; simp
theorem posL_all (n : Nat) (L : List (Ex n)) (k : Nat) (h : L.length ≤ k) : posL n L k = (L.flatMap (allE n)).length := by
  unfold posL; rw [List.take_of_length_le h]
theorem posL_at (n : Nat) (L : List (Ex n)) (k : Nat) (h : k < L.length) (i : Nat) (hi : i < (allE n L[k]).length) : (L.flatMap (allE n))[posL n L k + i]? = some (allE n L[k])[i] := by
  have e : L = L.take k ++ L[k] :: L.drop (k + 1) := by rw [← List.drop_eq_getElem_cons h, List.take_append_drop]
  have e2 : L.flatMap (allE n) = (L.take k).flatMap (allE n) ++ (allE n L[k] ++ (L.drop (k + 1)).flatMap (allE n)) := by
    conv => lhs; rw [e]
    rw [List.flatMap_append, List.flatMap_cons]
  rw [e2]
  unfold posL
  rw [List.getElem?_append_right (by omega), Nat.add_sub_cancel_left, List.getElem?_append_left hi, List.getElem?_eq_getElem hi]
theorem told_at {full l : List AE} {s q : Nat} {y : AE} (h : ∀ i (h : i < l.length), full[s + i]? = some l[i]) (hq : l[q]? = some y) : full[s + q]? = some y := by
  obtain ⟨hlt, e⟩ := List.getElem?_eq_some_iff.1 hq
  rw [h q hlt, e]
def WalkIn (n : Nat) : Prop := ∀ (l : Nat) (full : List AE) (W0 : World) (B : Nat) (J : Nat → World → Prop) (Jx : World → Prop), (∀ k A A', J k A → Below A.heap.size A A' → J k A') →
    (∀ m k xs A, J k A → k < full.length → Told W0 B full k xs → YieldAt Fence.wide m Tryd.prog l xs A fun e A' => (e = .returned (.bool true) ∧ J (k + 1) A' ∧ K26 B A A') ∨ (e = .returned (.bool false) ∧ Jx A')) →
    ∀ (x : Ex n) (v : V7) (d m s : Nat) (W : World), SmallE n d x → ExIn W0 B n v x → B ≤ W.heap.size → Below B W0 W → (∀ i (h : i < (allE n x).length), full[s + i]? = some (allE n x)[i]) → J s W →
    CallsIn Fence.wide m Tryd.prog 29 #[.agg #[.int .i64 v.op, .int .i64 v.num, .string v.tx, .slice v.pa v.pl v.pc, .slice v.qa v.ql v.qc, .bool v.opn, .slice v.ka v.kl v.kc], .func (.yield l) #[] #[]] W fun e W' => (e = .returned (.bool true) ∧ J (s + (allE n x).length) W' ∧ K26 B W W') ∨ (e = .returned (.bool false) ∧ Jx W')
set_option maxRecDepth 100000 in
set_option maxHeartbeats 8000000 in
theorem walk_succ (n : Nat) (HD : Hid (WalkIn n)) : WalkIn (n + 1) := by
  intro l full W0 B J Jx hJ hY x v d m s W hsm hx hB hbW hfull hj
  have hb1 := bel1 W (.cells #[.int .i64 v.op, .int .i64 v.num, .string v.tx, .slice v.pa v.pl v.pc, .slice v.qa v.ql v.qc, .bool v.opn, .slice v.ka v.kl v.kc] 26)
  have hs1 := hb1.size
  have NA := Lib.hid (new_cells W #[.int .i64 v.op, .int .i64 v.num, .string v.tx, .slice v.pa v.pl v.pc, .slice v.qa v.ql v.qc, .bool v.opn, .slice v.ka v.kl v.kc] 26)
  have h0 := hfull 0 (all_pos _ _)
  rw [Nat.add_zero] at h0
  have hlt : s < full.length := (List.getElem?_eq_some_iff.1 h0).1
  obtain ⟨fn, tmps, assign, body, hy, hR⟩ := hY (m - 1) s #[.agg #[.int .i64 v.op, .int .i64 v.num, .string v.tx, .slice v.pa v.pl v.pc, .slice v.qa v.ql v.qc, .bool v.opn, .slice v.ka v.kl v.kc]] _ (hJ s _ _ hj hb1) hlt ⟨v, _, h0, rfl, hx⟩
  have HFU : Hid (∀ i (h : i < ((partsE n x).flatMap (allE n)).length), full[s + 1 + i]? = some ((partsE n x).flatMap (allE n))[i]) := Lib.hid (fun i h => by
    have h2 := hfull (i + 1) (by simp only [allE, List.length_cons]; omega)
    have e : s + (i + 1) = s + 1 + i := by omega
    rw [e] at h2
    rw [h2]
    rfl)
  have hlen : Hid ((allE (n + 1) x).length = 1 + ((partsE n x).flatMap (allE n)).length) := Lib.hid (by simp only [allE, List.length_cons]; omega)
  have HPS := Lib.hid (parts_small hsm)
  have HP : Hid (∀ W', Below B W0 W' → B ≤ W'.heap.size → Calls Tryd.prog 35 #[.agg #[.int .i64 v.op, .int .i64 v.num, .string v.tx, .slice v.pa v.pl v.pc, .slice v.qa v.ql v.qc, .bool v.opn, .slice v.ka v.kl v.kc]] W' (PartsPost n B x W')) := Lib.hid (fun W' h h' => parts_any n W' B v x h' (ExIn.kept h (n + 1) _ _ hx) hsm.2.2.2.1)
  have HJ := Lib.hid hJ
  have HY := Lib.hid hY
  clear hJ hY hfull h0 hsm hx hj hlt
  generalize hL : partsE n x = L at HFU hlen HPS
  have HL := Lib.hid hL
  clear hL
  refine callsIn_of_wp Tryd.func29 rfl trivial ?_ rfl
  simp only [Tryd.ntmps29, List.size_toArray, List.length_cons, List.length_nil, Nat.reduceAdd, Nat.reduceSub, Array.replicate_succ, Array.replicate_zero, List.push_toArray, List.append_toArray, List.nil_append, List.cons_append]
  gi_wp2
  refine ⟨fun h => (by cases h), ?_⟩
  refine hR.mono ?_
  clear hR hy
  rintro e W2 (⟨rfl, hJ2, hk2⟩ | ⟨rfl, hJx⟩)
  · have hA : ∀ o, W2.cell? ⟨W.heap.size, o, none⟩ = #[.int .i64 v.op, .int .i64 v.num, .string v.tx, .slice v.pa v.pl v.pc, .slice v.qa v.ql v.qc, .bool v.opn, .slice v.ka v.kl v.kc][o]? := fun o => (hk2.cell (.inr ⟨_, _, NA.out⟩) o).trans (cells_of NA.out o)
    have hb2 : Below B W0 W2 := hbW.trans ((hb1.mono hB).trans hk2.1)
    have hB2 : B ≤ W2.heap.size := by have := hk2.1.size; omega
    have HK2 : Hid (K26 B W W2) := Lib.hid ((K26.of hb1 hB).trans hk2)
    have HJ2 := Lib.hid hJ2
    clear hk2 hJ2
    gi_wp2_with (refine ⟨trivial, (fun h => (by cases h)), ?_⟩; gi_at_call 35; refine (callsIn_wide.2 (HP.out _ hb2 hB2)).mono ?_; rintro e W3 ⟨a, cap, rfl, hb3, hK, hP⟩; rw [HL.out] at hK hP; rw [HL.out]; have HK := Lib.hid hK; have HPL := Lib.hid hP; clear hK hP)
    have hb03 : Below B W0 W3 := hb2.trans (hb3.mono hB2)
    have hB3 : B ≤ W3.heap.size := by have := hb3.size; omega
    have HK3 : Hid (K26 B W W3) := Lib.hid (HK2.out.trans (K26.of hb3 hB2))
    have HJ3 := Lib.hid (HJ.out (s + 1) W2 W3 HJ2.out hb3)
    have hl2 : L.length ≤ 200 := HPS.out.1
    clear hA
    gi_loopw [14] (fun i wr => ∃ k : Nat, k ≤ L.length ∧ i = .int .i64 k ∧ Hid (J (s + 1 + posL n L k) wr) ∧ Hid (K26 B W3 wr)) (fun i _ => L.length - (intOf i).toNat)
    case atStart => exact ⟨0, Nat.zero_le _, rfl, Lib.hid (by have := HJ3.out; simpa [posL] using this), Lib.hid (K26.refl _ _)⟩
    case round =>
      obtain ⟨k, hk, rfl, hj, hkr⟩ := hrel
      by_cases hlt : k < L.length
      · have i1 : (0 : Int) ≤ (k : Int) := by omega
        have i2 : (k : Int) < (L.length : Int) := by omega
        obtain ⟨g, off, rfl, hg, hc⟩ := HK.out.2.2 (by omega)
        obtain ⟨v', hE, hI⟩ := hc k hlt
        have hpl : g < B ∨ ∃ (c : Array Value) (f : Nat × Nat), W3.heap[g]? = some (Obj.cells c 26 f) := (HPL.out (by omega) g off rfl).elim .inl (fun h => .inr h.2)
        obtain ⟨d0, d1, d2, d3, d4, d5, d6⟩ := hE.kept (W' := wr) (fun o => hkr.out.cell hpl o)
        have hbr : Below B W0 wr := hb03.trans hkr.out.1
        have hBr : B ≤ wr.heap.size := by have := hkr.out.1.size; omega
        have hb5 := bel1 wr (.cells #[.int .i64 v'.op, .int .i64 v'.num, .string v'.tx, .slice v'.pa v'.pl v'.pc, .slice v'.qa v'.ql v'.qc, .bool v'.opn, .slice v'.ka v'.kl v'.kc] 26)
        have HC := Lib.hid (HD.out l full W0 B J Jx HJ.out HY.out L[k] v' (d - 1) (m - 1) (s + 1 + posL n L k) (wr.alloc (.cells #[.int .i64 v'.op, .int .i64 v'.num, .string v'.tx, .slice v'.pa v'.pl v'.pc, .slice v'.qa v'.ql v'.qc, .bool v'.opn, .slice v'.ka v'.kl v'.kc] 26)) (HPS.out.2 k hlt) (ExIn.cells (fun g o hg => (hb03.cell (p := ⟨g, o, none⟩) hg).symm) n _ _ hI) (by have := hb5.size; omega) (hbr.trans (hb5.mono hBr))
          (fun i hi => by rw [Nat.add_assoc (s + 1)]; exact told_at HFU.out (posL_at n L k hlt i hi)) (HJ.out _ _ _ hj.out hb5))
        have HST := Lib.hid (posL_succ n L k hlt)
        have HK5 : Hid (K26 B W3 (wr.alloc (.cells #[.int .i64 v'.op, .int .i64 v'.num, .string v'.tx, .slice v'.pa v'.pl v'.pc, .slice v'.qa v'.ql v'.qc, .bool v'.opn, .slice v'.ka v'.kl v'.kc] 26))) := Lib.hid (hkr.out.trans (K26.of hb5 hBr))
        clear hc hE hI hpl hj hkr
        gi_wp2_with (refine ⟨trivial, (fun h => (by cases h)), ?_⟩; gi_at_call 29; refine HC.out.mono ?_; rintro e W5 (⟨rfl, hJ5, hk5⟩ | ⟨rfl, hJx5⟩))
        · go_roundw
          case rel => exact ⟨k + 1, by omega, by go_num, Lib.hid (by rw [HST.out, ← Nat.add_assoc]; exact hJ5), Lib.hid (HK5.out.trans hk5)⟩
          case measure => simp [intOf]; omega
        · go_ret
          exact .inr ⟨rfl, hJx5⟩
      · have hge : (L.length : Int) ≤ (k : Int) := by omega
        have hfin : Hid (posL n L k = (L.flatMap (allE n)).length) := Lib.hid (posL_all n L k (by omega))
        gi_wp2
        go_ret
        exact .inl ⟨rfl, by rw [hlen.out, ← hfin.out, ← Nat.add_assoc]; exact hj.out, HK3.out.trans hkr.out⟩
  · gi_wp2
    go_ret
    exact .inr ⟨rfl, hJx⟩
theorem walk_in : ∀ n, WalkIn n
  | 0 => fun _ _ _ _ _ _ _ _ x => x.elim
  | n + 1 => walk_succ n (Lib.hid (walk_in n))
end Go.Proofs.YtigdibglkejciaaDoor.Ex
