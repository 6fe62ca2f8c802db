/-
  Pairs and kids that are right, in the reference.
-/
import Derived.Test.YtigdibglkejciaaDoorE29
namespace Go.Proofs.YtigdibglkejciaaDoor.Ex
open Go.RowKit Go
set_option linter.unusedSimpArgs false

def RightROk (n : Nat) : Prop := ∀ (w : World) (B : Nat) (v : V7) (x : Ex n) (d : Nat), B ≤ w.heap.size → SmallE n d x → ExIn w B n v x → Calls Tryd.prog 18 #[.agg #[.int .i64 v.op, .int .i64 v.num, .string v.tx, .slice v.pa v.pl v.pc, .slice v.qa v.ql v.qc, .bool v.opn, .slice v.ka v.kl v.kc]] w fun e w' => e = .returned (.bool (rightE n x)) ∧ Below w.heap.size w w'
theorem info9 : (Tryd.prog.info? 9).map (fun i => (i.zero, i.size, i.bytes)) = some (some (.string ByteArray.empty), 1, 16) := by kernel_rfl
theorem StrsIn.of_row {W : World} {base : Nat} {a : Option Addr} {len cap : Nat} {l : List ByteArray} (h : W.ownsRow base 9 1 (.slice a len cap) len (l.map Value.string)) (hl : len = l.length) (hm : l.length ≤ maxLen) : StrsIn W W.heap.size a len l := by
  refine ⟨hl, hm, fun hp => ?_⟩
  have hc : ∀ g, (Value.slice a len cap).ownBlock = some g → _ := fun g hg => h.cells hg
  obtain ⟨hx, ⟨e, h0⟩ | ⟨g, cap', cur, e, hg, hh, _⟩⟩ := h
  · omega
  · cases e
    refine ⟨g, 0, rfl, (Array.getElem?_eq_some_iff.1 hh).1, fun i hi => ?_⟩
    have := hc g rfl i (.string l[i]) (by rw [List.getElem?_map, List.getElem?_eq_getElem hi]; rfl)
    rw [Addr.add_lit] at this
    exact this
set_option maxHeartbeats 4000000 in
theorem kidsR_any (n : Nat) (HD : Hid (RightROk n)) (w : World) (B : Nat) (a : Option Addr) (len c : Nat) (lo hi : Int) (l : List (Ex n)) (d : Nat) (hB : B ≤ w.heap.size) (hs : ∀ i (h : i < l.length), SmallE n d l[i]) (hl : KidsIn (ExIn w B n) w B a len l) : Calls Tryd.prog 41 #[.slice a len c, .int .i64 lo, .int .i64 hi] w fun e w' => e = .returned (.bool (l.all (rightE n) && (decide (lo ≤ (len : Int)) && decide ((len : Int) ≤ hi)))) ∧ Below w.heap.size w w' := by
  have HL := Lib.hid hl
  have LQ := Lib.hid hl.1
  have HS := Lib.hid hs
  have hm3 : len ≤ 9223372036854775807 := by have := hl.1; have := hl.2.1; unfold maxLen at this; omega
  clear hl hs
  go_enter Tryd.func41, Tryd.ntmps41
  go_wp2
  go_loopw [7] (fun i wr => ∃ k : Nat, k ≤ len ∧ i = .int .i64 k ∧ Below w.heap.size w wr ∧ Hid (∀ i, i < k → (h : i < l.length) → rightE n l[i] = true)) (fun i _ => len - (intOf i).toNat)
  case atStart => exact ⟨0, Nat.zero_le _, rfl, Below.refl _ _, fun i h => by omega⟩
  case round =>
    obtain ⟨k, hk, rfl, hbel, hok⟩ := hrel
    have hs2 := hbel.size
    by_cases hlt : k < len
    · have hk1 : k < l.length := by have := LQ.out; omega
      obtain ⟨g, off, rfl, hg, hc⟩ := HL.out.2.2 (by omega)
      obtain ⟨v1, hE, hI⟩ := hc k hk1
      obtain ⟨d0, d1, d2, d3, d4, d5, d6⟩ := hE.kept (W' := wr) (fun o => hbel.cell (p := ⟨g, o, none⟩) (by show g < w.heap.size; omega))
      have i1 : (0 : Int) ≤ (k : Int) := by omega
      have i2 : (k : Int) < (len : Int) := by omega
      have HC := Lib.hid (HD.out wr B v1 l[k] d (by omega) (HS.out k hk1) (ExIn.kept (hbel.mono hB) n _ _ hI))
      have hyes : Hid (rightE n l[k] = true → ∀ i, i < k + 1 → (h : i < l.length) → rightE n l[i] = true) := Lib.hid (fun hr i hi h => (Nat.lt_succ_iff_lt_or_eq.1 hi).elim (fun h' => hok.out i h' h) (fun e => by subst e; exact hr))
      have hno : Hid (rightE n l[k] = false → l.all (rightE n) = false) := Lib.hid (fun hr => all_no _ _ k hk1 hr)
      generalize rightE n l[k] = b at HC hyes hno
      clear hc hE hI hok
      cases b
      · have hR := Lib.hid (hno.out rfl)
        clear hyes hno
        go_wp2_with (go_at_call 18; (with_reducible refine HC.out.mono ?_); rintro e w2 ⟨rfl, hb2⟩)
        go_ret
        exact ⟨ret_bool (by rw [hR.out]; rfl), hbel.trans (hb2.mono hs2)⟩
      · have hok2 := Lib.hid (hyes.out rfl)
        clear hyes hno
        go_wp2_with (go_at_call 18; (with_reducible refine HC.out.mono ?_); rintro e w2 ⟨rfl, hb2⟩)
        go_roundw
        case rel => exact ⟨k + 1, by omega, by go_num, hbel.trans (hb2.mono hs2), hok2⟩
        case measure => simp [intOf]; omega
    · have hge : (len : Int) ≤ (k : Int) := by omega
      have hR : Hid (l.all (rightE n) = true) := Lib.hid (all_yes _ _ (fun i h => hok.out i (by have := LQ.out; omega) h))
      clear hok
      by_cases hz : lo ≤ (len : Int)
      · by_cases hy : (len : Int) ≤ hi
        · go_wp2
          go_ret
          exact ⟨ret_bool (by rw [hR.out]; simp [hz, hy]), hbel⟩
        · have hy2 : hi < (len : Int) := by omega
          clear hy
          go_wp2
          go_ret
          exact ⟨ret_bool (by rw [hR.out]; simp; omega), hbel⟩
      · have hz2 : (len : Int) < lo := by omega
        clear hz
        go_wp2
        go_ret
        exact ⟨ret_bool (by rw [hR.out]; simp; omega), hbel⟩
theorem names_rise {n : Nat} (wr : World) (base : Nat) (oa : Option Addr) (k oc : Nat) (l : List (ByteArray × Ex n)) (hk : k = l.length) (hm : l.length ≤ 200) (h1 : wr.ownsRow base 9 1 (.slice oa k oc) k ((l.take k).map (fun p => Value.string p.1))) : Calls Tryd.prog 52 #[.slice oa k oc] wr fun e w' => e = .returned (.bool (rising (l.map (·.1)))) ∧ Below wr.heap.size wr w' := by
  rw [List.take_of_length_le (by omega)] at h1
  have e2 : l.map (fun p => Value.string p.1) = (l.map (·.1)).map Value.string := by rw [List.map_map]; rfl
  rw [e2] at h1
  have hl : (l.map (·.1)).length = k := by rw [List.length_map, hk]
  have hm2 : (l.map (·.1)).length ≤ 200 := by rw [List.length_map]; exact hm
  generalize l.map (·.1) = q at h1 hl hm2 ⊢
  have h2 := StrsIn.of_row h1 hl.symm (by unfold maxLen; omega)
  subst hl
  exact risingR_any wr.heap.size oa oc q wr (Nat.le_refl _) h2
set_option maxRecDepth 100000 in
set_option maxHeartbeats 4000000 in
theorem pairsR_any (n : Nat) (HD : Hid (RightROk n)) (w : World) (B : Nat) (a : Option Addr) (len c : Nat) (l : List (ByteArray × Ex n)) (d : Nat) (hB : B ≤ w.heap.size) (hs : ∀ i (h : i < l.length), SmallE n d l[i].2) (h200 : l.length ≤ 200) (hl : PairsIn (ExIn w B n) w B a len l) : Calls Tryd.prog 40 #[.slice a len c] w fun e w' => e = .returned (.bool (l.all (fun p => rightE n p.2) && (decide ((len : Int) ≤ 32) && rising (l.map (·.1))))) ∧ Below w.heap.size w w' := by
  obtain ⟨i0, hi0, z0, z1, z2⟩ := info_parts info9
  have HI := Lib.hid (show Tryd.prog.info? 9 = some i0 ∧ i0.zero = _ ∧ i0.size = 1 ∧ i0.bytes = 16 from ⟨hi0, z0, z1, z2⟩)
  have HL := Lib.hid hl
  have LQ := Lib.hid hl.1
  have HS := Lib.hid hs
  have hm3 : len ≤ 200 := by have := hl.1; omega
  clear hl hs hi0 z0 z1 z2
  go_enter Tryd.func40, Tryd.ntmps40
  go_wp2
  go_loopw [3, 4] (fun o i wr => ∃ (k : Nat) (oa : Option Addr) (oc : Nat), k ≤ len ∧ i = .int .i64 k ∧ o = .slice oa k oc ∧ Below w.heap.size w wr ∧ Hid (wr.ownsRow w.heap.size 9 1 (.slice oa k oc) k ((l.take k).map (fun p => Value.string p.1))) ∧ Hid (∀ i, i < k → (h : i < l.length) → rightE n l[i].2 = true)) (fun _ i _ => len - (intOf i).toNat)
  case atStart => exact ⟨0, none, 0, Nat.zero_le _, rfl, rfl, Below.refl _ _, World.ownsRow_nil _ _ _ _, fun i h => by omega⟩
  case round =>
    obtain ⟨k, oa, oc, hk, rfl, rfl, hbel, hrow, hok⟩ := hrel
    have hs2 := hbel.size
    by_cases hlt : k < len
    · have hk1 : k < l.length := by have := LQ.out; omega
      obtain ⟨g, off, rfl, hg, hc⟩ := HL.out.2.2 (by omega)
      obtain ⟨v1, hcn, hE, hI⟩ := hc k hk1
      have cn : wr.cell? ⟨g, off + k * 8, none⟩ = _ := (hbel.cell (p := ⟨g, _, none⟩) (by show g < w.heap.size; omega)).trans hcn
      obtain ⟨d0, d1, d2, d3, d4, d5, d6⟩ := hE.kept (W' := wr) (fun o => hbel.cell (p := ⟨g, o, none⟩) (by show g < w.heap.size; omega))
      have i1 : (0 : Int) ≤ (k : Int) := by omega
      have i2 : (k : Int) < (len : Int) := by omega
      have hg1 : g < wr.heap.size := by omega
      have HC : Hid (∀ W, Below w.heap.size w W → Calls Tryd.prog 18 #[.agg #[.int .i64 v1.op, .int .i64 v1.num, .string v1.tx, .slice v1.pa v1.pl v1.pc, .slice v1.qa v1.ql v1.qc, .bool v1.opn, .slice v1.ka v1.kl v1.kc]] W fun e w' => e = .returned (.bool (rightE n l[k].2)) ∧ Below W.heap.size W w') := Lib.hid (fun W h => HD.out W B v1 l[k].2 d (by have := h.size; omega) (HS.out k hk1) (ExIn.kept (h.mono hB) n _ _ hI))
      have hyes : Hid (rightE n l[k].2 = true → ∀ i, i < k + 1 → (h : i < l.length) → rightE n l[i].2 = true) := Lib.hid (fun hr i hi h => (Nat.lt_succ_iff_lt_or_eq.1 hi).elim (fun h' => hok.out i h' h) (fun e => by subst e; exact hr))
      have hno : Hid (rightE n l[k].2 = false → l.all (fun p => rightE n p.2) = false) := Lib.hid (fun hr => all_no _ _ k hk1 hr)
      have hst : Hid ((l.take (k + 1)).map (fun p => Value.string p.1) = (l.take k).map (fun p => Value.string p.1) ++ [Value.string l[k].1]) := Lib.hid (by rw [List.take_succ_eq_append_getElem hk1, List.map_append]; rfl)
      generalize rightE n l[k].2 = b at HC hyes hno
      generalize l[k].1 = nm at cn hst
      generalize (l.take k).map (fun p => Value.string p.1) = N at hrow hst
      clear hc hE hI hok hcn
      have hcell : ∀ j u, [Value.string nm][j]? = some u → (wr.alloc (.cells #[.string nm] 9)).cell? ((⟨wr.heap.size, 0, none⟩ : Addr).add j) = some u := World.news_of_block (new_cells wr #[.string nm] 9)
      have HCELL := Lib.hid hcell
      clear hcell
      go_wp2_with (at_builtin; refine wpList_append_lies _ (by rfl) _ _ 22 (by rfl) w.heap.size 9 i0 _ 1 16 Tryd.underlying22 HI.out.1 HI.out.2.1 HI.out.2.2.1 HI.out.2.2.2 (by rfl) (by decide) (.slice oa k oc) k N (by rfl) (own_below hrow.out (bel1 _ _)) ⟨wr.heap.size, 0, none⟩ 1 1 [.string nm] (by rfl) (by rfl) HCELL.out (by intro u hu; simp at hu; subst hu; rfl) (by omega) (by unfold maxLen; omega) (by omega) (by simp; omega) (wr.heap.size + 1) (by simp) ?_)
      intro g' cap' w4 hown hgrow hat hlt1
      have hrl : ∀ b, (Value.slice oa k oc).ownBlock = some b → w.heap.size ≤ b := fun b e => (hrow.out.lt b e).1
      have hb4 : Below w.heap.size w w4 := (hbel.alloc hs2 _).grown hgrow (by simp; omega) hrl
      have hs4 := hb4.size
      have HO4 := Lib.hid hown
      have HC4 := Lib.hid (HC.out w4 hb4)
      have e0 : w4.cell? ⟨g, off + k * 8 + 1, none⟩ = _ := (((hbel.alloc hs2 _).grown hgrow (by simp; omega) hrl).cell (p := ⟨g, off + k * 8 + 1, none⟩) (by show g < w.heap.size; omega)).trans ((hbel.cell (p := ⟨g, off + k * 8 + 1, none⟩) (by show g < w.heap.size; omega)).symm.trans d0)
      have e1 : w4.cell? ⟨g, off + k * 8 + 1 + 1, none⟩ = _ := (hb4.cell (p := ⟨g, off + k * 8 + 1 + 1, none⟩) (by show g < w.heap.size; omega)).trans ((hbel.cell (p := ⟨g, off + k * 8 + 1 + 1, none⟩) (by show g < w.heap.size; omega)).symm.trans d1)
      have e2 : w4.cell? ⟨g, off + k * 8 + 1 + 2, none⟩ = _ := (hb4.cell (p := ⟨g, off + k * 8 + 1 + 2, none⟩) (by show g < w.heap.size; omega)).trans ((hbel.cell (p := ⟨g, off + k * 8 + 1 + 2, none⟩) (by show g < w.heap.size; omega)).symm.trans d2)
      have e3 : w4.cell? ⟨g, off + k * 8 + 1 + 3, none⟩ = _ := (hb4.cell (p := ⟨g, off + k * 8 + 1 + 3, none⟩) (by show g < w.heap.size; omega)).trans ((hbel.cell (p := ⟨g, off + k * 8 + 1 + 3, none⟩) (by show g < w.heap.size; omega)).symm.trans d3)
      have e4 : w4.cell? ⟨g, off + k * 8 + 1 + 4, none⟩ = _ := (hb4.cell (p := ⟨g, off + k * 8 + 1 + 4, none⟩) (by show g < w.heap.size; omega)).trans ((hbel.cell (p := ⟨g, off + k * 8 + 1 + 4, none⟩) (by show g < w.heap.size; omega)).symm.trans d4)
      have e5 : w4.cell? ⟨g, off + k * 8 + 1 + 5, none⟩ = _ := (hb4.cell (p := ⟨g, off + k * 8 + 1 + 5, none⟩) (by show g < w.heap.size; omega)).trans ((hbel.cell (p := ⟨g, off + k * 8 + 1 + 5, none⟩) (by show g < w.heap.size; omega)).symm.trans d5)
      have e6 : w4.cell? ⟨g, off + k * 8 + 1 + 6, none⟩ = _ := (hb4.cell (p := ⟨g, off + k * 8 + 1 + 6, none⟩) (by show g < w.heap.size; omega)).trans ((hbel.cell (p := ⟨g, off + k * 8 + 1 + 6, none⟩) (by show g < w.heap.size; omega)).symm.trans d6)
      clear hown hgrow hat HC
      cases b
      · have hR := Lib.hid (hno.out rfl)
        clear hyes hno
        go_wp2_with (go_at_call 18; (with_reducible refine HC4.out.mono ?_); rintro e w5 ⟨rfl, hb5⟩)
        go_ret
        exact ⟨ret_bool (by rw [hR.out]; rfl), hb4.trans (hb5.mono hs4)⟩
      · have hok2 := Lib.hid (hyes.out rfl)
        clear hyes hno
        go_wp2_with (go_at_call 18; (with_reducible refine HC4.out.mono ?_); rintro e w5 ⟨rfl, hb5⟩)
        go_roundw
        case rel => exact ⟨k + 1, some ⟨g', 0, none⟩, cap', by omega, by go_num, rfl, hb4.trans (hb5.mono hs4), by rw [hst.out]; exact own_below HO4.out hb5, hok2⟩
        case measure => simp [intOf]; omega
    · have hge : (len : Int) ≤ (k : Int) := by omega
      have hkl : k = len := by omega
      have hR : Hid (l.all (fun p => rightE n p.2) = true) := Lib.hid (all_yes _ _ (fun i h => hok.out i (by have := LQ.out; omega) h))
      have HRS := Lib.hid (names_rise wr w.heap.size oa k oc l (by have := LQ.out; omega) (by omega) hrow.out)
      obtain ⟨r, hr⟩ : ∃ r, rising (l.map (·.1)) = r := ⟨_, rfl⟩
      rw [hr] at HRS
      have HRR := Lib.hid hr
      clear hr
      clear hok hrow hkl
      by_cases hz : (len : Int) ≤ 32
      · go_wp2_with (go_at_call 52; (with_reducible refine HRS.out.mono ?_); rintro e w2 ⟨rfl, hb2⟩)
        go_ret
        exact ⟨ret_bool (by rw [hR.out, HRR.out]; simp [hz]), hbel.trans (hb2.mono hs2)⟩
      · have hz2 : (32 : Int) < (len : Int) := by omega
        clear hz
        go_wp2
        go_ret
        exact ⟨ret_bool (by rw [hR.out]; simp; omega), hbel⟩
end Go.Proofs.YtigdibglkejciaaDoor.Ex
