/-
  The names that an expression reads: in the reference.
-/
import Derived.Test.YtigdibglkejciaaDoorE35
namespace Go.Proofs.YtigdibglkejciaaDoor.Ex
open Go.RowKit Go
set_option linter.unusedSimpArgs false

/-- The names read by expressions. -/
def refOf : AE → List ByteArray
  | ⟨0, x⟩ => x.elim
  | ⟨_ + 1, x⟩ => if x.1.op = 9 then x.2.1.take 1 else []
def refsL (l : List AE) : List ByteArray := l.flatMap refOf
theorem refsL_succ (l : List AE) (k : Nat) (h : k < l.length) : refsL (l.take (k + 1)) = refsL (l.take k) ++ refOf l[k] := by
  unfold refsL; rw [List.take_succ_eq_append_getElem h, List.flatMap_append]; simp
theorem refsL_snoc (l : List AE) (y : AE) : refsL (l ++ [y]) = refsL l ++ refOf y := by
  unfold refsL; rw [List.flatMap_append]; simp
theorem refOf_le (y : AE) : (refOf y).length ≤ 1 := by
  obtain ⟨n, x⟩ := y
  cases n with
  | zero => exact x.elim
  | succ n =>
    simp only [refOf]
    split
    · rw [List.length_take]; omega
    · simp
theorem refsL_le : ∀ l : List AE, (refsL l).length ≤ l.length
  | [] => Nat.le_refl _
  | y :: l => by
    have h1 := refOf_le y
    have h2 := refsL_le l
    unfold refsL at h2 ⊢
    rw [List.flatMap_cons, List.length_append, List.length_cons]
    omega
theorem ref_no {W : World} {B : Nat} {v : V7} {y : AE} (h : ExIn W B y.1 v y.2) (e : ¬ v.op = 9) : refOf y = [] := by
  obtain ⟨n, x⟩ := y
  cases n with
  | zero => exact x.elim
  | succ n =>
    have h1 : v.op = x.1.op := h.1
    show (if x.1.op = 9 then _ else _) = _
    rw [if_neg (by rw [← h1]; exact e)]
theorem ref_0 {W : World} {B : Nat} {v : V7} {y : AE} (h : ExIn W B y.1 v y.2) (e : v.pl = 0) : refOf y = [] := by
  obtain ⟨n, x⟩ := y
  cases n with
  | zero => exact x.elim
  | succ n =>
    have h1 : v.pl = x.2.1.length := h.2.2.2.2.1.1
    show (if x.1.op = 9 then _ else _) = _
    have : x.2.1 = [] := List.eq_nil_of_length_eq_zero (by omega)
    split
    · rw [this]; rfl
    · rfl
theorem take_one : ∀ (l : List ByteArray) (h : 0 < l.length), l.take 1 = [l[0]]
  | _ :: _, _ => rfl
theorem ref_1 {W : World} {B : Nat} {v : V7} {y : AE} (h : ExIn W B y.1 v y.2) (e : v.op = 9) (hp : 0 < v.pl) : ∃ g off s, v.pa = some ⟨g, off, none⟩ ∧ g < B ∧ W.cell? ⟨g, off, none⟩ = some (.string s) ∧ refOf y = [s] := by
  obtain ⟨n, x⟩ := y
  cases n with
  | zero => exact x.elim
  | succ n =>
    have h1 : v.op = x.1.op := h.1
    have h5 : StrsIn W B v.pa v.pl x.2.1 := h.2.2.2.2.1
    obtain ⟨g, off, ea, hg, hc⟩ := h5.2.2 (by have := h5.1; omega)
    have h0 : 0 < x.2.1.length := by have := h5.1; omega
    refine ⟨g, off, x.2.1[0], ea, hg, ?_, ?_⟩
    · have := hc 0 h0
      rwa [Nat.add_zero] at this
    · show (if x.1.op = 9 then _ else _) = _
      rw [if_pos (by rw [← h1]; exact e)]
      exact take_one _ h0
theorem AllIn.at {W0 : World} {B base : Nat} {W : World} {a : Option Addr} {len cap : Nat} {l : List AE} (h : AllIn W0 B base W (.slice a len cap) l) (hl : 0 < l.length) : ∃ g, a = some ⟨g, 0, none⟩ ∧ base ≤ g ∧ g < W.heap.size ∧ ∀ i (h : i < l.length), ∃ v, EAt W g (i * 7) v ∧ ExIn W0 B l[i].1 v l[i].2 := by
  obtain ⟨vs, hr, hlen, hI⟩ := h
  have hc : ∀ g, (Value.slice a len cap).ownBlock = some g → _ := fun g hg => hr.cells hg
  obtain ⟨hx, ⟨e, h0⟩ | ⟨g, cap', cur, e, hg, hh, _⟩⟩ := hr
  · omega
  · cases e
    refine ⟨g, rfl, hg, (Array.getElem?_eq_some_iff.1 hh).1, fun i hi => ⟨vs[i], EAt.of_cells (fun j hj => ?_), hI i (by omega) hi⟩⟩
    have e1 := vcells_at vs i (by omega) j hj
    have e2 : vs[i].cells[j]? = some (vs[i].cells[j]'(by show j < 7; omega)) := List.getElem?_eq_getElem _
    have := hc g rfl (i * 7 + j) _ (e1.trans e2)
    rw [Addr.add_lit] at this
    rw [e2, ← this, Nat.zero_add]
def RefsPost (l : List AE) (w : World) (e : Ending) (w' : World) : Prop := ∃ a cap, e = .returned (.slice a (refsL l).length cap) ∧ StrsIn w' w'.heap.size a (refsL l).length (refsL l) ∧ Below w.heap.size w w'
set_option maxRecDepth 100000 in
set_option maxHeartbeats 8000000 in
theorem refsR_any (n : Nat) (w : World) (v : V7) (x : Ex n) (d : Nat) (hsm : SmallE n d x) (hc : cnt n x ≤ 200) (hx : ExIn w w.heap.size n v x) : Calls Tryd.prog 13 #[.agg #[.int .i64 v.op, .int .i64 v.num, .string v.tx, .slice v.pa v.pl v.pc, .slice v.qa v.ql v.qc, .bool v.opn, .slice v.ka v.kl v.kc]] w (RefsPost (allE n x) w) := by
  obtain ⟨i0, hi0, z0, z1, z2⟩ := info_parts info9
  have HI := Lib.hid (show Tryd.prog.info? 9 = some i0 ∧ i0.zero = _ ∧ i0.size = 1 ∧ i0.bytes = 16 from ⟨hi0, z0, z1, z2⟩)
  have hb1 := bel1 w (.cells #[.int .i64 v.op, .int .i64 v.num, .string v.tx, .slice v.pa v.pl v.pc, .slice v.qa v.ql v.qc, .bool v.opn, .slice v.ka v.kl v.kc] 26)
  have hs1 := hb1.size
  have HC := Lib.hid (all_ok n _ w.heap.size v x d (by omega) hsm hc (ExIn.kept hb1 n _ _ hx))
  have hM : (allE n x).length ≤ 200 := Nat.le_trans (all_le n x) hc
  have hpos := all_pos n x
  generalize allE n x = full at HC hM hpos ⊢
  have HLE := Lib.hid (refsL_le full)
  clear hsm hx hc hi0 z0 z1 z2
  go_enter Tryd.func13, Tryd.ntmps13
  go_wp2_with (go_at_call 8; (with_reducible refine HC.out.mono ?_); rintro e W2 ⟨a, cap, rfl, hA, hb2⟩; obtain ⟨g, rfl, hg0, hg1, hat⟩ := hA.at hpos; have HAT := Lib.hid hat; clear hA hat)
  have hs2 := hb2.size
  have hbw := hb1.trans (hb2.mono hs1)
  go_loopw [3, 5] (fun o i wr => ∃ (k : Nat) (oa : Option Addr) (oc : Nat), k ≤ full.length ∧ i = .int .i64 k ∧ o = .slice oa (refsL (full.take k)).length oc ∧ Below W2.heap.size W2 wr ∧ Hid (wr.ownsRow W2.heap.size 9 1 (.slice oa (refsL (full.take k)).length oc) (refsL (full.take k)).length ((refsL (full.take k)).map Value.string))) (fun _ i _ => full.length - (intOf i).toNat)
  case atStart => exact ⟨0, none, 0, Nat.zero_le _, rfl, rfl, Below.refl _ _, World.ownsRow_nil _ _ _ _⟩
  case round =>
    obtain ⟨k, oa, oc, hk, rfl, rfl, hbel, hrow⟩ := hrel
    have hs3 := hbel.size
    by_cases hlt : k < full.length
    · have i1 : (0 : Int) ≤ (k : Int) := by omega
      have i2 : (k : Int) < (full.length : Int) := by omega
      obtain ⟨v', hE, hI⟩ := HAT.out k hlt
      obtain ⟨d0, d1, d2, d3, d4, d5, d6⟩ := hE.kept (W' := wr) (fun o => hbel.cell (p := ⟨g, o, none⟩) hg1)
      have hst := refsL_succ full k hlt
      have hrl : (refsL (full.take k)).length ≤ k := by have := refsL_le (full.take k); rw [List.length_take] at this; omega
      by_cases h9 : v'.op = 9
      · have e9 : ((v'.op : Int) == 9) = true := by simp [h9]
        by_cases hp : 0 < v'.pl
        · obtain ⟨gp, off, s, ea, hgp, hcp, hrf⟩ := ref_1 hI h9 hp
          have cp : wr.cell? ⟨gp, off, none⟩ = _ := (hbel.cell (p := ⟨gp, off, none⟩) (by show gp < _; omega)).trans hcp
          have hgp2 : gp < wr.heap.size := by omega
          have ip : (0 : Int) < (v'.pl : Int) := by omega
          have HST : Hid (refsL (full.take (k + 1)) = refsL (full.take k) ++ [s]) := Lib.hid (by rw [hst, hrf])
          rw [ea] at d3
          generalize refsL (full.take k) = N at hrow HST hrl ⊢
          clear hE hI hst hcp hrf ea h9
          have HCELL : Hid (∀ j u, [Value.string s][j]? = some u → (wr.alloc (.cells #[.string s] 9)).cell? ((⟨wr.heap.size, 0, none⟩ : Addr).add j) = some u) := Lib.hid (World.news_of_block (new_cells wr #[.string s] 9))
          go_wp2_with (at_builtin; refine wpList_append_lies _ (by rfl) _ _ 22 (by rfl) W2.heap.size 9 i0 _ 1 16 Tryd.underlying22 HI.out.1 HI.out.2.1 HI.out.2.2.1 HI.out.2.2.2 (by rfl) (by decide) (.slice oa N.length oc) N.length (N.map Value.string) (by rfl) (own_below hrow.out (bel1 _ _)) ⟨wr.heap.size, 0, none⟩ 1 1 [.string s] (by rfl) (by rfl) HCELL.out (by intro u hu; simp at hu; subst hu; rfl) (by omega) (by unfold maxLen; omega) (by omega) (by simp; omega) (wr.heap.size + 1) (by simp) ?_)
          intro g' cap' w4 hown hgrow hat hlt1
          have hrl2 : ∀ b, (Value.slice oa N.length oc).ownBlock = some b → W2.heap.size ≤ b := fun b e => (hrow.out.lt b e).1
          have hb4 : Below W2.heap.size W2 w4 := (hbel.alloc hs3 _).grown hgrow (by simp; omega) hrl2
          have HO4 := Lib.hid hown
          clear hown hgrow hat HCELL
          go_wp2
          go_roundw
          case rel => exact ⟨k + 1, some ⟨g', 0, none⟩, cap', by omega, by go_num, by rw [HST.out, List.length_append]; rfl, hb4, Lib.hid (by rw [HST.out, List.length_append, List.map_append]; exact HO4.out)⟩
          case measure => simp [intOf]; omega
        · have hp0 : v'.pl = 0 := by omega
          have HST : Hid (refsL (full.take (k + 1)) = refsL (full.take k)) := Lib.hid (by rw [hst, ref_0 hI hp0, List.append_nil])
          rw [hp0] at d3
          generalize refsL (full.take k) = N at hrow HST hrl ⊢
          clear hE hI hst hp hp0 h9
          go_wp2
          go_roundw
          case rel => exact ⟨k + 1, oa, oc, by omega, by go_num, by rw [HST.out], hbel, Lib.hid (by rw [HST.out]; exact hrow.out)⟩
          case measure => simp [intOf]; omega
      · have e9 : ((v'.op : Int) == 9) = false := by simpa using h9
        have HST : Hid (refsL (full.take (k + 1)) = refsL (full.take k)) := Lib.hid (by rw [hst, ref_no hI h9, List.append_nil])
        generalize refsL (full.take k) = N at hrow HST hrl ⊢
        clear hE hI hst h9
        go_wp2
        go_roundw
        case rel => exact ⟨k + 1, oa, oc, by omega, by go_num, by rw [HST.out], hbel, Lib.hid (by rw [HST.out]; exact hrow.out)⟩
        case measure => simp [intOf]; omega
    · have hge : (full.length : Int) ≤ (k : Int) := by omega
      have hfin : Hid (refsL (full.take k) = refsL full) := Lib.hid (by rw [List.take_of_length_le (by omega)])
      have HF : Hid (RefsPost full w (.returned (.slice oa (refsL (full.take k)).length oc)) wr) := Lib.hid (by
        have h1 := hrow.out
        rw [hfin.out] at h1 ⊢
        exact ⟨oa, oc, rfl, StrsIn.of_row h1 rfl (by have := HLE.out; unfold maxLen; omega), hbw.trans (hbel.mono (by omega))⟩)
      clear hrow
      go_wp2
      go_ret
      exact HF.out
end Go.Proofs.YtigdibglkejciaaDoor.Ex
