/-
  All expressions in order: the walk of the reference.
-/
import Derived.Test.YtigdibglkejciaaDoorE20
import Derived.Laws.OwnMore
namespace Go.Proofs.YtigdibglkejciaaDoor.Ex
open Go.RowKit Go
set_option linter.unusedSimpArgs false

theorem KidsIn.far {n : Nat} {W W' : World} {B : Nat} {a : Option Addr} {len : Nat} {l : List (Ex n)} (h : KidsIn (ExIn W B n) W W.heap.size a len l) (hf : 0 < len → ∀ g off, a = some ⟨g, off, none⟩ → g < W.heap.size → ∀ o, W'.cell? ⟨g, o, none⟩ = W.cell? ⟨g, o, none⟩) (hb : Below B W W') (hs : W.heap.size ≤ W'.heap.size) : KidsIn (ExIn W' B n) W' W'.heap.size a len l :=
  ⟨h.1, h.2.1, fun hp => by
    obtain ⟨g, off, e, hg, hi⟩ := h.2.2 hp
    exact ⟨g, off, e, by omega, fun i hlt => by
      obtain ⟨v, h1, h2⟩ := hi i hlt
      exact ⟨v, h1.kept (hf (by have := h.1; omega) g off e hg), ExIn.kept hb n _ _ h2⟩⟩⟩
theorem all_pos : ∀ (n : Nat) (x : Ex n), 0 < (allE n x).length
  | 0, x => x.elim
  | n + 1, x => by simp only [allE, List.length_cons]; omega
theorem vcells_one : ∀ (vs : List V7), ∀ u ∈ vcells vs, u.oneCell' = true
  | [], u, h => by simp [vcells] at h
  | v :: vs, u, h => by
    simp only [vcells, List.flatMap_cons, List.mem_append] at h
    rcases h with h | h
    · simp [V7.cells] at h; rcases h with rfl | rfl | rfl | rfl | rfl | rfl | rfl <;> rfl
    · exact vcells_one vs u h
theorem slice_inj {a b : Option Addr} {n m c d : Nat} (h : Value.slice a n c = .slice b m d) : a = b ∧ n = m ∧ c = d := by cases h; exact ⟨rfl, rfl, rfl⟩
theorem vcells_app (a b : List V7) : vcells (a ++ b) = vcells a ++ vcells b := by simp [vcells]
theorem all_pair {W0 : World} {B : Nat} {l l' : List AE} {vs vs' : List V7} (hl : vs.length = l.length) (hl' : vs'.length = l'.length) (h : ∀ i (h1 : i < vs.length) (h2 : i < l.length), ExIn W0 B l[i].1 vs[i] l[i].2) (h' : ∀ i (h1 : i < vs'.length) (h2 : i < l'.length), ExIn W0 B l'[i].1 vs'[i] l'[i].2) :
    (vs ++ vs').length = (l ++ l').length ∧ ∀ i (h1 : i < (vs ++ vs').length) (h2 : i < (l ++ l').length), ExIn W0 B (l ++ l')[i].1 (vs ++ vs')[i] (l ++ l')[i].2 := by
  refine ⟨by simp [hl, hl'], fun i h1 h2 => ?_⟩
  by_cases hi : i < vs.length
  · have e1 : (vs ++ vs')[i] = vs[i] := List.getElem_append_left hi
    have e2 : (l ++ l')[i] = l[i]'(by omega) := List.getElem_append_left (by omega)
    rw [e1, e2]
    exact h i hi (by omega)
  · have e1 : (vs ++ vs')[i] = vs'[i - vs.length]'(by simp at h1; omega) := List.getElem_append_right (by omega)
    have e2 : (l ++ l')[i] = l'[i - l.length]'(by simp at h2; omega) := List.getElem_append_right (by omega)
    have e3 : i - vs.length = i - l.length := by omega
    rw [e1, e2]
    have := h' (i - l.length) (by simp at h1; omega) (by simp at h2; omega)
    simp only [e3]
    exact this
set_option maxRecDepth 100000 in
set_option maxHeartbeats 8000000 in
theorem all_succ (n : Nat) (HD : Hid (AllOk n)) : AllOk (n + 1) := by
  intro w B v x d hB hsm hcnt hx
  obtain ⟨i0, hi0, z0, z1, z2⟩ := info_parts info26
  have HI := Lib.hid (show Tryd.prog.info? 26 = some i0 ∧ i0.zero = _ ∧ i0.size = 7 ∧ i0.bytes = 112 from ⟨hi0, z0, z1, z2⟩)
  have hb1 := (bel1 w (.cells #[.int .i64 v.op, .int .i64 v.num, .string v.tx, .slice v.pa v.pl v.pc, .slice v.qa v.ql v.qc, .bool v.opn, .slice v.ka v.kl v.kc] 26)).trans ((bel1 (w.alloc (.cells #[.int .i64 v.op, .int .i64 v.num, .string v.tx, .slice v.pa v.pl v.pc, .slice v.qa v.ql v.qc, .bool v.opn, .slice v.ka v.kl v.kc] 26)) (.cells #[.int .i64 v.op, .int .i64 v.num, .string v.tx, .slice v.pa v.pl v.pc, .slice v.qa v.ql v.qc, .bool v.opn, .slice v.ka v.kl v.kc] 26)).mono (by simp))
  have hs1 := hb1.size
  have HSM := Lib.hid hsm
  have HPS := Lib.hid (parts_small hsm)
  have HCN := Lib.hid hcnt
  have HC := Lib.hid (partsR_any n _ B v x (by omega) (ExIn.kept (hb1.mono hB) (n + 1) _ _ hx) hsm.2.2.2.1)
  have HX := Lib.hid hx
  have HR0 : Hid (((w.alloc (.cells #[.int .i64 v.op, .int .i64 v.num, .string v.tx, .slice v.pa v.pl v.pc, .slice v.qa v.ql v.qc, .bool v.opn, .slice v.ka v.kl v.kc] 26)).alloc (.cells #[.int .i64 v.op, .int .i64 v.num, .string v.tx, .slice v.pa v.pl v.pc, .slice v.qa v.ql v.qc, .bool v.opn, .slice v.ka v.kl v.kc] 26)).ownsRow w.heap.size 26 7 (.slice (some ⟨w.heap.size + 1, 0, none⟩) 1 1) 1 (vcells [v])) := by
    refine Lib.hid ?_
    have := World.ownsRow_lit (base := w.heap.size) (size := 7) (e := 26) (w.alloc (.cells #[.int .i64 v.op, .int .i64 v.num, .string v.tx, .slice v.pa v.pl v.pc, .slice v.qa v.ql v.qc, .bool v.opn, .slice v.ka v.kl v.kc] 26)) #[.int .i64 v.op, .int .i64 v.num, .string v.tx, .slice v.pa v.pl v.pc, .slice v.qa v.ql v.qc, .bool v.opn, .slice v.ka v.kl v.kc] 1 (by simp) (by unfold maxLen; omega) (by rfl)
    rw [World.size_alloc] at this
    exact this
  clear hsm hx hcnt hi0 z0 z1 z2
  go_enter Tryd.func8, Tryd.ntmps8
  go_wp2_with (go_at_call 27; (with_reducible refine HC.out.mono ?_); rintro e W2 ⟨a, cap, rfl, hb2, hK, hP⟩)
  generalize hL : partsE n x = L at hK hP ⊢
  have HL := Lib.hid hL
  have hbw := hb1.trans (hb2.mono hs1)
  have hs2 := hb2.size
  have hl2 : L.length ≤ 200 := by have := HPS.out.1; rw [hL] at this; exact this
  have HK := Lib.hid hK
  have HNE : Hid (0 < L.length → ∀ g off, a = some ⟨g, off, none⟩ → g ≠ w.heap.size + 1) := Lib.hid (fun h0 g off e => by
    have hsz : ((w.alloc (.cells #[.int .i64 v.op, .int .i64 v.num, .string v.tx, .slice v.pa v.pl v.pc, .slice v.qa v.ql v.qc, .bool v.opn, .slice v.ka v.kl v.kc] 26)).alloc (.cells #[.int .i64 v.op, .int .i64 v.num, .string v.tx, .slice v.pa v.pl v.pc, .slice v.qa v.ql v.qc, .bool v.opn, .slice v.ka v.kl v.kc] 26)).heap.size = w.heap.size + 1 + 1 := by simp
    rcases hP h0 g off e with h | ⟨h, _⟩ <;> omega)
  have HR : Hid (W2.ownsRow w.heap.size 26 7 (.slice (some ⟨w.heap.size + 1, 0, none⟩) 1 1) 1 (vcells [v])) := Lib.hid (own_below HR0.out hb2)
  have HI0 : Hid (ExIn W2 B (n + 1) v x) := Lib.hid (ExIn.kept (hbw.mono hB) (n + 1) _ _ HX.out)
  clear hL hK hP HR0
  go_loopw [3, 5] (fun o i wr => ∃ (k : Nat) (oa : Option Addr) (oc : Nat) (vs : List V7), k ≤ L.length ∧ i = .int .i64 k ∧ o = .slice oa (allK n x k).length oc ∧ Below w.heap.size w wr ∧ Hid (wr.ownsRow w.heap.size 26 7 (.slice oa (allK n x k).length oc) (allK n x k).length (vcells vs)) ∧
      Hid (vs.length = (allK n x k).length ∧ ∀ i (h1 : i < vs.length) (h2 : i < (allK n x k).length), ExIn wr B (allK n x k)[i].1 vs[i] (allK n x k)[i].2) ∧ Hid (KidsIn (ExIn wr B n) wr wr.heap.size a L.length L) ∧ Hid (0 < L.length → ∀ g off, a = some ⟨g, off, none⟩ → (Value.slice oa (allK n x k).length oc).ownBlock ≠ some g)) (fun _ i _ => L.length - (intOf i).toNat)
  case atStart =>
    refine ⟨0, some ⟨w.heap.size + 1, 0, none⟩, 1, [v], Nat.zero_le _, rfl, rfl, hbw, HR, Lib.hid ⟨rfl, fun i h1 h2 => ?_⟩, HK, Lib.hid (fun h0 g off e h => ?_)⟩
    · have : i = 0 := by simp at h1; omega
      subst this
      exact HI0.out
    · have h3 := HNE.out h0 g off e
      simp [Value.ownBlock] at h
      omega
  case round =>
    obtain ⟨k, oa, oc, vs, hk, rfl, rfl, hbel, hrow, hvs, HKr, HO⟩ := hrel
    have hs3 := hbel.size
    by_cases hlt : k < L.length
    · have i1 : (0 : Int) ≤ (k : Int) := by omega
      have i2 : (k : Int) < (L.length : Int) := by omega
      obtain ⟨g, off, rfl, hg, hc⟩ := HKr.out.2.2 (by omega)
      obtain ⟨v', hE, hI⟩ := hc k hlt
      obtain ⟨d0, d1, d2, d3, d4, d5, d6⟩ := hE
      have hsk : SmallE n (d - 1) L[k] := by have h := HPS.out.2; have e := HL.out; subst e; exact h k hlt
      have hck : cnt n L[k] ≤ 200 := by have h := @cnt_part n x; have e := HL.out; subst e; have := h k hlt; have := HCN.out; omega
      have HCk := Lib.hid (HD.out wr B v' L[k] (d - 1) (by omega) hsk hck hI)
      have hst : Hid (allK n x (k + 1) = allK n x k ++ allE n L[k]) := Lib.hid (by have e := HL.out; subst e; exact allK_succ n x k hlt)
      have hle : (allK n x k).length + (allE n L[k]).length ≤ 200 := by have h := allK_le n x (k + 1); rw [hst.out, List.length_append] at h; have := HCN.out; omega
      have hpos := all_pos n L[k]
      generalize allE n L[k] = M at HCk hst hle hpos
      generalize allK n x k = N at hst hle hrow hvs HO ⊢
      clear hc hI hsk hck
      go_wp2_with (first
        | (go_at_call 8; (with_reducible refine HCk.out.mono ?_); rintro e W3 ⟨a2, cap2, rfl, ⟨vs2, hr2, hl2, hI2⟩, hb3⟩; obtain ⟨g2, cap3, e2, -, -⟩ := hr2.form hpos; obtain ⟨rfl, -⟩ := slice_inj e2; clear e2; have HR2 := Lib.hid hr2; have HI2 := Lib.hid (And.intro hl2 hI2); have hs4 := hb3.size; clear hr2 hl2 hI2)
        | (at_builtin; refine wpList_append_lies _ (by rfl) _ _ 24 (by rfl) w.heap.size 26 i0 _ 7 112 Tryd.underlying24 HI.out.1 HI.out.2.1 HI.out.2.2.1 HI.out.2.2.2 (by rfl) (by decide) (.slice oa N.length oc) N.length (vcells vs) (by rfl) (own_below hrow.out hb3) ⟨g2, 0, none⟩ M.length cap2 (vcells vs2) (by rfl) (by rw [vcells_len, HI2.out.1]) (HR2.out.cells rfl) (vcells_one vs2) hpos (by unfold maxLen; omega) (by omega) (by omega) W3.heap.size rfl ?_))
      intro g' cap' w4 hown hgrow hat hlt1
      have hrl : ∀ b, (Value.slice oa N.length oc).ownBlock = some b → w.heap.size ≤ b := fun b e => (hrow.out.lt b e).1
      have hb4 : Below w.heap.size w w4 := (hbel.trans (hb3.mono hs3)).grown hgrow (by omega) hrl
      have hb34 : Below B wr w4 := (hb3.mono (by omega)).grown hgrow (by omega) (fun b e => Nat.le_trans hB (hrl b e))
      have hs5 := hgrow.size
      have HKn : Hid (KidsIn (ExIn w4 B n) w4 w4.heap.size (some ⟨g, off, none⟩) L.length L) := Lib.hid (KidsIn.far HKr.out (fun h0 g1 off1 e hg1 o => by
        cases e
        exact (hgrow.cell_far ⟨g, o, none⟩ (by show g < _; omega) (fun e => HO.out h0 g off rfl e.symm)).trans (hb3.cell (p := ⟨g, o, none⟩) hg1)) hb34 (by omega))
      have HOn : Hid (0 < L.length → ∀ g1 off1, some (⟨g, off, none⟩ : Addr) = some ⟨g1, off1, none⟩ → (Value.slice (some ⟨g', 0, none⟩) (N.length + M.length) cap').ownBlock ≠ some g1) := Lib.hid (fun h0 g1 off1 e h => by
        cases e
        have hgg : g' = g := by simpa [Value.ownBlock] using h
        subst hgg
        rcases hat with h1 | h1
        · exact HO.out h0 g' off rfl h1
        · omega)
      have HV : Hid ((vs ++ vs2).length = (N ++ M).length ∧ ∀ i (h1 : i < (vs ++ vs2).length) (h2 : i < (N ++ M).length), ExIn w4 B (N ++ M)[i].1 (vs ++ vs2)[i] (N ++ M)[i].2) := by
        exact Lib.hid (all_pair hvs.out.1 HI2.out.1 (fun i h1 h2 => ExIn.kept hb34 _ _ _ (hvs.out.2 i h1 h2)) (fun i h1 h2 => ExIn.kept ((Below.refl B W3).grown hgrow (by omega) (fun b e => Nat.le_trans hB (hrl b e))) _ _ _ (HI2.out.2 i h1 h2)))
      have HO4 := Lib.hid hown
      clear hown hgrow hat
      go_wp2
      go_roundw
      case rel =>
        refine ⟨k + 1, some ⟨g', 0, none⟩, cap', vs ++ vs2, by omega, by go_num, by rw [hst.out, List.length_append], hb4, ?_, ?_, HKn, ?_⟩
        · rw [hst.out, List.length_append, vcells_app]; exact HO4
        · rw [hst.out]; exact HV
        · rw [hst.out, List.length_append]; exact HOn
      case measure => simp [intOf]; omega
    · have hge : (L.length : Int) ≤ (k : Int) := by omega
      have hfin : Hid (allK n x k = allE (n + 1) x) := Lib.hid (allK_all n x k (by rw [HL.out]; omega))
      have HF : Hid (AllPost (allE (n + 1) x) B w (.returned (.slice oa (allK n x k).length oc)) wr) := Lib.hid (by rw [← hfin.out]; exact ⟨oa, oc, rfl, ⟨vs, hrow.out, hvs.out.1, hvs.out.2⟩, hbel⟩)
      clear hrow hvs HO
      go_wp2
      go_ret
      exact HF.out
theorem all_ok : ∀ n, AllOk n
  | 0 => fun _ _ _ x => x.elim
  | n + 1 => all_succ n (Lib.hid (all_ok n))
end Go.Proofs.YtigdibglkejciaaDoor.Ex
