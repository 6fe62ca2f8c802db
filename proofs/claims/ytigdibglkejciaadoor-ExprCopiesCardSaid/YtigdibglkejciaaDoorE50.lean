/-
  plain, walked.
-/
import Derived.Test.YtigdibglkejciaaDoorE45
import Derived.Test.YtigdibglkejciaaDoorE49
import Derived.Deep.DeepCutAuto
namespace Go.Proofs.YtigdibglkejciaaDoor.Ex
open Go.RowKit Go
set_option linter.unusedSimpArgs false

/-- When the paths are copied. -/
structure P1 (w : World) (vop vnum : Int) (vtx : ByteArray) (vpl : Nat) (vopn : Bool) (X : Array Value) (ps : List ByteArray) (pa : Option Addr) (pc : Nat) (W : World) : Prop where
  bel : Below w.heap.size w W
  box : W.heap[w.heap.size]? = some (.cells X 26 (0, 0))
  res : W.heap[w.heap.size + 1]? = some (.cells #[.int .i64 0, .int .i64 0, .string ⟨#[]⟩, .slice none 0 0, .slice none 0 0, .bool false, .slice none 0 0] 26 (0, 0))
  out : W.heap[w.heap.size + 1 + 1]? = some (.cells #[.int .i64 vop, .int .i64 vnum, .string vtx, .slice pa vpl pc, .slice none 0 0, .bool vopn, .slice none 0 0] 26 (0, 0))
  rp : StrsQ W (rng (w.heap.size + 3) W) pa vpl ps
theorem StrsQ.map {W W' : World} {Q Q' : TypeId → Nat → Nat → Prop} {a : Option Addr} {len : Nat} {l : List ByteArray} (h : ∀ T g off, Q T g off → (∀ o, W'.cell? ⟨g, o, none⟩ = W.cell? ⟨g, o, none⟩) ∧ Q' T g off) (hx : StrsQ W Q a len l) : StrsQ W' Q' a len l :=
  ⟨hx.1, hx.2.1, fun hp => by obtain ⟨g, off, e, hg, hi⟩ := hx.2.2 hp; exact ⟨g, off, e, (h _ _ _ hg).2, fun i hlt => ((h _ _ _ hg).1 _).trans (hi i hlt)⟩⟩
theorem PairsQ.map {n : Nat} {W W' : World} {Q Q' : TypeId → Nat → Nat → Prop} {a : Option Addr} {len : Nat} {l : List (ByteArray × Ex n)} (h : ∀ T g off, Q T g off → (∀ o, W'.cell? ⟨g, o, none⟩ = W.cell? ⟨g, o, none⟩) ∧ Q' T g off) (hx : PairsQ (ExQ W Q n) W Q a len l) : PairsQ (ExQ W' Q' n) W' Q' a len l :=
  ⟨hx.1, hx.2.1, fun hp => by
    obtain ⟨g, off, e, hg, hi⟩ := hx.2.2 hp
    refine ⟨g, off, e, (h _ _ _ hg).2, fun i hlt => ?_⟩
    obtain ⟨v', a, b, c⟩ := hi i hlt
    exact ⟨v', ((h _ _ _ hg).1 _).trans a, b.kept (fun o => (h _ _ _ hg).1 o), ExQ.map h n _ _ c⟩⟩
theorem KidsQ.map {n : Nat} {W W' : World} {Q Q' : TypeId → Nat → Nat → Prop} {a : Option Addr} {len : Nat} {l : List (Ex n)} (h : ∀ T g off, Q T g off → (∀ o, W'.cell? ⟨g, o, none⟩ = W.cell? ⟨g, o, none⟩) ∧ Q' T g off) (hx : KidsQ (ExQ W Q n) W Q a len l) : KidsQ (ExQ W' Q' n) W' Q' a len l :=
  ⟨hx.1, hx.2.1, fun hp => by
    obtain ⟨g, off, e, hg, hi⟩ := hx.2.2 hp
    refine ⟨g, off, e, (h _ _ _ hg).2, fun i hlt => ?_⟩
    obtain ⟨v', b, c⟩ := hi i hlt
    exact ⟨v', b.kept (fun o => (h _ _ _ hg).1 o), ExQ.map h n _ _ c⟩⟩
theorem AL.pairs' {w : World} {lo n c k : Nat} {a : Option Addr} {ys : List Value} {l : List (ByteArray × Ex n)} (h : AL w lo 46 8 n k (.slice a k c) ys (l.map (fun q => ([.string q.1], q.2)))) (e : k = l.length) (hm : l.length ≤ maxLen) : PairsQ (ExQ w (rng lo w) n) w (rng lo w) a k l := by subst e; exact AL.pairs h hm
theorem AL.kids' {w : World} {lo n c k : Nat} {a : Option Addr} {ys : List Value} {l : List (Ex n)} (h : AL w lo 26 7 n k (.slice a k c) ys (l.map (fun x => ([], x)))) (e : k = l.length) (hm : l.length ≤ maxLen) : KidsQ (ExQ w (rng lo w) n) w (rng lo w) a k l := by subst e; exact AL.kids h hm
theorem AL.next2 {wr w4 w5 : World} {o : Obj} {T : TypeId} {sz lo tB off n j : Nat} {V u : Value} {qs : List Value} {L : List (List Value × Ex n)} {v : V7} {g cap : Nat} {pre : List Value} {y : Ex n}
    (h : AL wr lo T sz n j V qs L) (hj : j < L.length) (hL : L[j] = (pre, y)) (htB : tB < lo) (hlo : lo ≤ wr.heap.size) (hb4 : Below wr.heap.size wr w4) (hown : ExQ w4 (rng wr.heap.size w4) n v y)
    (ho5 : w5.ownsRow lo T sz (.slice (some ⟨g, 0, none⟩) (j + 1) cap) (j + 1) (qs ++ (pre ++ v.cells))) (hg : (w4.alloc o).grownBy w5 V.ownBlock) (hat : V.ownBlock = some g ∨ g = w4.heap.size + 1) :
    AL (w5.setCell ⟨tB, off, none⟩ u) lo T sz n (j + 1) (.slice (some ⟨g, 0, none⟩) (j + 1) cap) (qs ++ (pre ++ v.cells)) L := by
  have := AL.next (off := off) (u := u) h hj htB hlo hb4 (by rw [hL]; exact hown) (by rw [hL]; exact ho5) hg hat
  rw [hL] at this
  exact this
theorem PL.cell {w wc W : World} {h g : Nat} (hp : PL w wc h W) (hg : g < wc.heap.size) (hn : g ≠ h) (o : Nat) : W.cell? ⟨g, o, none⟩ = wc.cell? ⟨g, o, none⟩ := World.cell?_of_block (w := wc) (hp.but g hg hn)
theorem plain_fin {n : Nat} {w wc wo wr : World} {vop vnum : Int} {vtx : ByteArray} {vpl vql vkl : Nat} {vopn : Bool} {X : Array Value} {x : Ex (n + 1)} {pa qa ka : Option Addr} {pc qc kc : Nat}
    (HXP : vop = x.1.op ∧ vnum = x.1.num ∧ vtx = x.1.text ∧ vopn = x.1.opn) (HC : P1 w vop vnum vtx vpl vopn X x.2.1 pa pc wc) (PO : PL w wc (w.heap.size + 1 + 1) wo) (PR : PL w wo (w.heap.size + 1 + 1) wr)
    (hwc : w.heap.size + 1 + 1 < wc.heap.size) (hP : PairsQ (ExQ wo (rng wc.heap.size wo) n) wo (rng wc.heap.size wo) qa vql x.2.2.1) (hK : KidsQ (ExQ wr (rng wo.heap.size wr) n) wr (rng wo.heap.size wr) ka vkl x.2.2.2) :
    ExQ (st7 wr (w.heap.size + 1) 0 ⟨vop, vnum, vtx, pa, vpl, pc, qa, vql, qc, vopn, ka, vkl, kc⟩) (rng w.heap.size (st7 wr (w.heap.size + 1) 0 ⟨vop, vnum, vtx, pa, vpl, pc, qa, vql, qc, vopn, ka, vkl, kc⟩)) (n + 1) ⟨vop, vnum, vtx, pa, vpl, pc, qa, vql, qc, vopn, ka, vkl, kc⟩ x := by
  have s1 := PO.size
  have s2 := PR.size
  refine ⟨HXP.1, HXP.2.1, HXP.2.2.1, HXP.2.2.2, ?_, ?_, ?_⟩
  · refine StrsQ.map (fun T g off hq => ⟨fun o => ?_, ?_⟩) HC.rp
    · have := hq.1; have := hq.2
      rw [st7_far (Or.inl (by omega)), PR.cell (by omega) (by omega), PO.cell (by omega) (by omega)]
    · have := hq.1; have := hq.2
      exact ⟨by omega, by rw [st7_size]; omega⟩
  · refine PairsQ.map (fun T g off hq => ⟨fun o => ?_, ?_⟩) hP
    · have := hq.1; have := hq.2
      rw [st7_far (Or.inl (by omega)), PR.cell (by omega) (by omega)]
    · have := hq.1; have := hq.2
      exact ⟨by omega, by rw [st7_size]; omega⟩
  · refine KidsQ.map (fun T g off hq => ⟨fun o => ?_, ?_⟩) hK
    · have := hq.1; have := hq.2
      rw [st7_far (Or.inl (by omega))]
    · have := hq.1; have := hq.2
      exact ⟨by omega, by rw [st7_size]; omega⟩
set_option maxRecDepth 100000 in
set_option maxHeartbeats 16000000 in
theorem plain_succ (n : Nat) (HD : Hid (PlainOk n)) : PlainOk (n + 1) := by
  intro w B v x d hB hsm hx
  obtain ⟨vop, vnum, vtx, vpa, vpl, vpc, vqa, vql, vqc, vopn, vka, vkl, vkc⟩ := v
  obtain ⟨hop, hnum, htx, hopn, hps, hqs, hks⟩ := hx
  simp only at hop hnum htx hopn hps hqs hks ⊢
  have hpl200 : vpl ≤ 200 := by have := hps.1; have := hsm.2.2.1; omega
  have hql200 : vql ≤ 200 := by have := hqs.1; have := hsm.2.2.2.1; omega
  have hkl200 : vkl ≤ 200 := by have := hks.1; have := hsm.2.2.2.2.1; omega
  have HP := Lib.hid hps
  have HQ := Lib.hid hqs
  have HK := Lib.hid hks
  have HSM := Lib.hid hsm
  have HXP := Lib.hid (And.intro hop (And.intro hnum (And.intro htx hopn)))
  clear hop hnum htx hopn hps hqs hks hsm
  go_enter Tryd.func14, Tryd.ntmps14
  go_upto_region 3 with fail
  have hb1 : Below w.heap.size w (((w.alloc (.cells #[.int .i64 vop, .int .i64 vnum, .string vtx, .slice vpa vpl vpc, .slice vqa vql vqc, .bool vopn, .slice vka vkl vkc] 26)).alloc (.cells #[.int .i64 0, .int .i64 0, .string ⟨#[]⟩, .slice none 0 0, .slice none 0 0, .bool false, .slice none 0 0] 26)).alloc (.cells #[.int .i64 vop, .int .i64 vnum, .string vtx, .slice none 0 0, .slice none 0 0, .bool vopn, .slice none 0 0] 26)) := (((Below.refl _ _).alloc (Nat.le_refl _) _).alloc (by simp) _).alloc (by simp; omega) _
  have n0 : (((w.alloc (.cells #[.int .i64 vop, .int .i64 vnum, .string vtx, .slice vpa vpl vpc, .slice vqa vql vqc, .bool vopn, .slice vka vkl vkc] 26)).alloc (.cells #[.int .i64 0, .int .i64 0, .string ⟨#[]⟩, .slice none 0 0, .slice none 0 0, .bool false, .slice none 0 0] 26)).alloc (.cells #[.int .i64 vop, .int .i64 vnum, .string vtx, .slice none 0 0, .slice none 0 0, .bool vopn, .slice none 0 0] 26)).heap[w.heap.size]? = some (.cells #[.int .i64 vop, .int .i64 vnum, .string vtx, .slice vpa vpl vpc, .slice vqa vql vqc, .bool vopn, .slice vka vkl vkc] 26 (0, 0)) := (((bel1 _ _).block _ (by simp; omega)).trans ((bel1 _ _).block _ (by simp))).trans (new_cells w #[.int .i64 vop, .int .i64 vnum, .string vtx, .slice vpa vpl vpc, .slice vqa vql vqc, .bool vopn, .slice vka vkl vkc] 26)
  have n1 : (((w.alloc (.cells #[.int .i64 vop, .int .i64 vnum, .string vtx, .slice vpa vpl vpc, .slice vqa vql vqc, .bool vopn, .slice vka vkl vkc] 26)).alloc (.cells #[.int .i64 0, .int .i64 0, .string ⟨#[]⟩, .slice none 0 0, .slice none 0 0, .bool false, .slice none 0 0] 26)).alloc (.cells #[.int .i64 vop, .int .i64 vnum, .string vtx, .slice none 0 0, .slice none 0 0, .bool vopn, .slice none 0 0] 26)).heap[w.heap.size + 1]? = some (.cells #[.int .i64 0, .int .i64 0, .string ⟨#[]⟩, .slice none 0 0, .slice none 0 0, .bool false, .slice none 0 0] 26 (0, 0)) := by
    have h := new_cells (w.alloc (.cells #[.int .i64 vop, .int .i64 vnum, .string vtx, .slice vpa vpl vpc, .slice vqa vql vqc, .bool vopn, .slice vka vkl vkc] 26)) #[.int .i64 0, .int .i64 0, .string ⟨#[]⟩, .slice none 0 0, .slice none 0 0, .bool false, .slice none 0 0] 26
    rw [World.size_alloc] at h
    exact ((bel1 _ _).block _ (by simp)).trans h
  have n2 : (((w.alloc (.cells #[.int .i64 vop, .int .i64 vnum, .string vtx, .slice vpa vpl vpc, .slice vqa vql vqc, .bool vopn, .slice vka vkl vkc] 26)).alloc (.cells #[.int .i64 0, .int .i64 0, .string ⟨#[]⟩, .slice none 0 0, .slice none 0 0, .bool false, .slice none 0 0] 26)).alloc (.cells #[.int .i64 vop, .int .i64 vnum, .string vtx, .slice none 0 0, .slice none 0 0, .bool vopn, .slice none 0 0] 26)).heap[w.heap.size + 1 + 1]? = some (.cells #[.int .i64 vop, .int .i64 vnum, .string vtx, .slice none 0 0, .slice none 0 0, .bool vopn, .slice none 0 0] 26 (0, 0)) := by
    have h := new_cells ((w.alloc (.cells #[.int .i64 vop, .int .i64 vnum, .string vtx, .slice vpa vpl vpc, .slice vqa vql vqc, .bool vopn, .slice vka vkl vkc] 26)).alloc (.cells #[.int .i64 0, .int .i64 0, .string ⟨#[]⟩, .slice none 0 0, .slice none 0 0, .bool false, .slice none 0 0] 26)) #[.int .i64 vop, .int .i64 vnum, .string vtx, .slice none 0 0, .slice none 0 0, .bool vopn, .slice none 0 0] 26
    rw [World.size_alloc, World.size_alloc] at h
    exact h
  have hz : (((w.alloc (.cells #[.int .i64 vop, .int .i64 vnum, .string vtx, .slice vpa vpl vpc, .slice vqa vql vqc, .bool vopn, .slice vka vkl vkc] 26)).alloc (.cells #[.int .i64 0, .int .i64 0, .string ⟨#[]⟩, .slice none 0 0, .slice none 0 0, .bool false, .slice none 0 0] 26)).alloc (.cells #[.int .i64 vop, .int .i64 vnum, .string vtx, .slice none 0 0, .slice none 0 0, .bool vopn, .slice none 0 0] 26)).heap.size = w.heap.size + 3 := by simp
  generalize ((w.alloc (.cells #[.int .i64 vop, .int .i64 vnum, .string vtx, .slice vpa vpl vpc, .slice vqa vql vqc, .bool vopn, .slice vka vkl vkc] 26)).alloc (.cells #[.int .i64 0, .int .i64 0, .string ⟨#[]⟩, .slice none 0 0, .slice none 0 0, .bool false, .slice none 0 0] 26)).alloc (.cells #[.int .i64 vop, .int .i64 vnum, .string vtx, .slice none 0 0, .slice none 0 0, .bool vopn, .slice none 0 0] 26) = w1 at hb1 n0 n1 n2 hz ⊢
  have H0 := Lib.hid n0
  have H1 := Lib.hid n1
  have H2 := Lib.hid n2
  have HB1 := Lib.hid hb1
  clear n0 n1 n2 hb1
  go_cut [] (fun wx => ∃ pa pc, P1 w vop vnum vtx vpl vopn #[.int .i64 vop, .int .i64 vnum, .string vtx, .slice vpa vpl vpc, .slice vqa vql vqc, .bool vopn, .slice vka vkl vkc] x.2.1 pa pc wx)
  case first =>
    have c0 := cells_of H0.out
    have c2 := cells_of H2.out
    have f2 := cells_free H2.out
    cases vpa with
    | none =>
      have h0 : vpl = 0 := by
        rcases Nat.eq_zero_or_pos vpl with h | h
        · exact h
        · obtain ⟨g, off, e, _⟩ := HP.out.2.2 (by have := HP.out.1; omega)
          cases e
      have HP0 := Lib.hid h0
      subst h0
      go_wp2_with fail
      go_meet
      case rel =>
        refine ⟨none, 0, HB1.out.setCell (p := ⟨w.heap.size + 1 + 1, 3, none⟩) (by show w.heap.size ≤ w.heap.size + 1 + 1; omega) _, ?_, ?_, ?_, ⟨HP.out.1, HP.out.2.1, fun hp => by have := HP.out.1; omega⟩⟩
        · rw [set_far (by omega)]; exact H0.out
        · rw [set_far (by omega)]; exact H1.out
        · exact set_at H2.out
    | some ad =>
      obtain ⟨i0, hi, hz0, hz1, hz2⟩ := info_parts info9
      have HI := Lib.hid (show Tryd.prog.info? 9 = some i0 ∧ i0.zero = _ ∧ i0.size = 1 ∧ i0.bytes = 16 from ⟨hi, hz0, hz1, hz2⟩)
      have A : Hid (∀ j u, (x.2.1.map Value.string)[j]? = some u → w1.cell? (ad.add j) = some u) := Lib.hid (fun j u hj => by
        rw [List.getElem?_map] at hj
        obtain ⟨s, hs, rfl⟩ := Option.map_eq_some_iff.1 hj
        obtain ⟨hlt, rfl⟩ := List.getElem?_eq_some_iff.1 hs
        obtain ⟨g, off, e, hg, hc⟩ := HP.out.2.2 (by omega)
        cases e
        rw [Addr.add_lit]
        exact (HB1.out.cell (p := ⟨g, _, none⟩) (by show g < _; omega)).trans (hc j hlt))
      have hlen : (x.2.1.map Value.string).length = vpl * 1 := by rw [List.length_map, Nat.mul_one]; exact HP.out.1.symm
      have hone : ∀ u ∈ x.2.1.map Value.string, u.oneCell' = true := by intro u hu; obtain ⟨s, _, rfl⟩ := List.mem_map.1 hu; rfl
      clear hi hz0 hz1 hz2
      go_wp2_with (at_builtin; refine wpList_append_own _ rfl _ _ 22 rfl w1.heap.size 9 i0 _ 1 16 Tryd.underlying22 HI.out.1 HI.out.2.1 HI.out.2.2.1 HI.out.2.2.2 (by rfl) (by decide) (.slice none 0 0) 0 [] rfl (World.ownsRow_nil _ _ _ _) ad vpl _ (x.2.1.map Value.string) rfl hlen A.out hone (by unfold maxLen; omega) (by omega) (Nat.le_refl _) ?_)
      intro v' w5 hown hgrow _
      obtain ⟨pa, pc, rfl⟩ := ownsRow_slice hown
      have hb5 : Below w1.heap.size w1 w5 := (Below.refl _ w1).grown hgrow (Nat.le_refl _) (by intro k hk; simp [Value.ownBlock] at hk)
      have e2 := (hb5.block _ (lt_of_block H2.out)).trans H2.out
      have c2 := cells_of e2
      have f2 := cells_free e2
      have HOWN := Lib.hid hown
      have HB5 := Lib.hid hb5
      have HE2 := Lib.hid e2
      clear hown hgrow hb5 e2
      go_wp2_with fail
      go_meet
      case rel =>
        have hl2 := lt_of_block H2.out
        refine ⟨pa, pc, (HB1.out.trans (HB5.out.mono HB1.out.size)).setCell (p := ⟨w.heap.size + 1 + 1, 3, none⟩) (by show w.heap.size ≤ w.heap.size + 1 + 1; omega) _, ?_, ?_, ?_, ?_⟩
        · rw [set_far (by omega), HB5.out.block _ (lt_of_block H0.out)]; exact H0.out
        · rw [set_far (by omega), HB5.out.block _ (lt_of_block H1.out)]; exact H1.out
        · exact set_at HE2.out
        · refine ⟨HP.out.1, HP.out.2.1, fun hp => ?_⟩
          obtain ⟨g, cap, e, hg, hb, hat⟩ := ownsRow_at HOWN.out (by have := HP.out.1; omega)
          injection e with e1 e2 e3; subst e1
          refine ⟨g, 0, rfl, ⟨by omega, by rw [World.size_setCell]; exact hb.lt⟩, fun i hi => ?_⟩
          rw [cell_set_ne _ _ _ _ _ _ (Or.inl (by omega)), Nat.zero_add]
          exact hat i _ (by rw [List.getElem?_map, List.getElem?_eq_getElem hi]; rfl)
  case rest =>
    obtain ⟨pa, pc, hC⟩ := hcut
    have hwc : w.heap.size + 1 + 1 < wc.heap.size := lt_of_block hC.out
    obtain ⟨i46, hi, hz0, hz1, hz2⟩ := info_parts info46
    have HI46 := Lib.hid (show Tryd.prog.info? 46 = some i46 ∧ i46.zero = _ ∧ i46.size = 8 ∧ i46.bytes = 128 from ⟨hi, hz0, hz1, hz2⟩)
    clear hi hz0 hz1 hz2
    go_wp2
    go_loopw [4] (fun i wr => ∃ (k : Nat) (qa : Option Addr) (qc : Nat) (ys : List Value), k ≤ vql ∧ i = .int .i64 k ∧ PL w wc (w.heap.size + 1 + 1) wr ∧ Hid (wr.heap[w.heap.size + 1 + 1]? = some (.cells #[.int .i64 vop, .int .i64 vnum, .string vtx, .slice pa vpl pc, .slice qa k qc, .bool vopn, .slice none 0 0] 26 (0, 0))) ∧ Hid (AL wr wc.heap.size 46 8 n k (.slice qa k qc) ys (x.2.2.1.map (fun q => ([.string q.1], q.2))))) (fun i _ => vql - (intOf i).toNat)
    case atStart => exact ⟨0, none, 0, [], Nat.zero_le _, rfl, ⟨hC.bel, Nat.le_refl _, fun _ _ _ => rfl⟩, Lib.hid hC.out, Lib.hid (AL.zero _ _ _ _ _ _)⟩
    case round =>
      obtain ⟨k, qa, qc, ys, hk, rfl, hPL, hO, hAL⟩ := hrel
      have hsz := hPL.size
      have hbw := hPL.bel.size
      have hBX := ((hPL.but _ (by omega) (by omega)).trans hC.box)
      have c0 := cells_of hBX
      have c2 := cells_of hO.out
      have f2 := cells_free hO.out
      by_cases hlt : k < vql
      · have hkx : k < x.2.2.1.length := by have := HQ.out.1; omega
        obtain ⟨g, off, e, hg, hc⟩ := HQ.out.2.2 (by omega)
        have hv1 := hc k hkx
        obtain rfl := e
        obtain ⟨v1, hs0, hE, hI⟩ := hv1
        obtain ⟨d0, d1, d2, d3, d4, d5, d6⟩ := id hE
        have i1 : (0 : Int) ≤ (k : Int) := by omega
        have i2 : (k : Int) < (vql : Int) := by omega
        have hgB : g < w.heap.size := Nat.lt_of_lt_of_le hg hB
        have hsk : SmallE n (d - 1) x.2.2.1[k].2 := (HSM.out.2.2.2.2.2.2.1 k hkx).2
        have HCk : Hid (∀ U, Below wr.heap.size wr U → Calls Tryd.prog 14 #[.agg #[.int .i64 v1.op, .int .i64 v1.num, .string v1.tx, .slice v1.pa v1.pl v1.pc, .slice v1.qa v1.ql v1.qc, .bool v1.opn, .slice v1.ka v1.kl v1.kc]] U (PlainPost n x.2.2.1[k].2 U)) := Lib.hid (fun U hU => HD.out U B v1 _ (d - 1) (by have := hU.size; omega) hsk (ExIn.kept ((hPL.bel.trans (hU.mono hbw)).mono hB) n _ _ hI))
        have SB0 : SX w.heap.size #[.int .i64 vop, .int .i64 vnum, .string vtx, .slice vpa vpl vpc, .slice (some ⟨g, off, none⟩) vql vqc, .bool vopn, .slice vka vkl vkc] wr := SX.of hBX
        have SG0 : SW g w wr := ⟨fun o => hPL.bel.cell (p := ⟨g, o, none⟩) hgB, by omega⟩
        have hlt2 := lt_of_block hO.out
        have hLl : k < ((x.2.2.1.map (fun q => ([.string q.1], q.2))) : List (List Value × Ex n)).length := by rw [List.length_map]; exact hkx
        have hLe : ((x.2.2.1.map (fun q => ([.string q.1], q.2))) : List (List Value × Ex n))[k]'hLl = ([.string x.2.2.1[k].1], x.2.2.1[k].2) := by rw [List.getElem_map]
        have HLE := Lib.hid hLe
        clear hLe hE hI hsk hc
        go_wp2_with fail
        refine wp_region_held_drew (S := (fun U => SX w.heap.size #[.int .i64 vop, .int .i64 vnum, .string vtx, .slice vpa vpl vpc, .slice (some ⟨g, off, none⟩) vql vqc, .bool vopn, .slice vka vkl vkc] U ∧ SW g w U)) (by kernel_rfl) ?_ (fun hH => ?_)
        · exact ⟨SX.drew SB0, SW.drew SG0⟩
        refine wpAnyH_take (i := 0) (v := ?_) rfl (by kernel_rfl) (by kernel_rfl) (by kernel_rfl) (fun _ _ _ h => h) (Or.inl ⟨by rfl, ?_⟩) (by assumption) ?_
        rotate_left; focus (intro w hSw; (try dsimp only at hSw); go_simp; try with_reducible rfl)
        (try simp only [List.getElem_toArray, List.getElem_cons_succ, List.getElem_cons_zero, Act.put, List.setIfInBounds_toArray, List.set_cons_zero, List.set_cons_succ])
        refine wpAnyH_take (i := 2) (v := ?_) rfl (by kernel_rfl) (by kernel_rfl) (by kernel_rfl) (fun _ _ _ h => h) (Or.inl ⟨by rfl, ?_⟩) (by assumption) ?_
        rotate_left; focus (intro w hSw; (try dsimp only at hSw); go_simp; try with_reducible rfl)
        (try simp only [List.getElem_toArray, List.getElem_cons_succ, List.getElem_cons_zero, Act.put, List.setIfInBounds_toArray, List.set_cons_zero, List.set_cons_succ])
        refine wpAnyH_take (i := 3) (v := ?_) rfl (by kernel_rfl) (by kernel_rfl) (by kernel_rfl) (fun _ _ _ h => h) (Or.inl ⟨by rfl, ?_⟩) (by assumption) ?_
        rotate_left; focus (intro w hSw; (try dsimp only at hSw); go_simp; try with_reducible rfl)
        (try simp only [List.getElem_toArray, List.getElem_cons_succ, List.getElem_cons_zero, Act.put, List.setIfInBounds_toArray, List.set_cons_zero, List.set_cons_succ])
        refine wpAnyH_take (i := 4) (v := ?_) rfl (by kernel_rfl) (by kernel_rfl) (by kernel_rfl) (fun _ _ _ h => h) (Or.inl ⟨by rfl, ?_⟩) (by assumption) ?_
        rotate_left; focus (intro w hSw; (try dsimp only at hSw); go_simp; try with_reducible rfl)
        (try simp only [List.getElem_toArray, List.getElem_cons_succ, List.getElem_cons_zero, Act.put, List.setIfInBounds_toArray, List.set_cons_zero, List.set_cons_succ])
        refine wpAnyH_take (i := 5) (v := ?_) rfl (by kernel_rfl) (by kernel_rfl) (by kernel_rfl) (fun _ _ _ h => h) (Or.inl ⟨by rfl, ?_⟩) (by assumption) ?_
        rotate_left; focus (intro w hSw; (try dsimp only at hSw); go_simp; try with_reducible rfl)
        (try simp only [List.getElem_toArray, List.getElem_cons_succ, List.getElem_cons_zero, Act.put, List.setIfInBounds_toArray, List.set_cons_zero, List.set_cons_succ])
        refine wpAnyH_take (i := 6) (v := ?_) rfl (by kernel_rfl) (by kernel_rfl) (by kernel_rfl) (fun _ _ _ h => h) (Or.inl ⟨by rfl, ?_⟩) (by assumption) ?_
        rotate_left; focus (intro w hSw; (try dsimp only at hSw); go_simp; try with_reducible rfl)
        (try simp only [List.getElem_toArray, List.getElem_cons_succ, List.getElem_cons_zero, Act.put, List.setIfInBounds_toArray, List.set_cons_zero, List.set_cons_succ])
        refine wpAnyH_take (i := 7) (v := ?_) rfl (by kernel_rfl) (by kernel_rfl) (by kernel_rfl) (fun _ _ _ h => h) (Or.inl ⟨by rfl, ?_⟩) (by assumption) ?_
        rotate_left; focus (intro w hSw; (try dsimp only at hSw); go_simp; try with_reducible rfl)
        (try simp only [List.getElem_toArray, List.getElem_cons_succ, List.getElem_cons_zero, Act.put, List.setIfInBounds_toArray, List.set_cons_zero, List.set_cons_succ])
        refine wpAnyH_take (i := 8) (v := ?_) rfl (by kernel_rfl) (by kernel_rfl) (by kernel_rfl) (fun _ _ _ h => h) (Or.inl ⟨by rfl, ?_⟩) (by assumption) ?_
        rotate_left; focus (intro w hSw; (try dsimp only at hSw); go_simp; try with_reducible rfl)
        (try simp only [List.getElem_toArray, List.getElem_cons_succ, List.getElem_cons_zero, Act.put, List.setIfInBounds_toArray, List.set_cons_zero, List.set_cons_succ])
        refine wpAnyH_take (i := 9) (v := ?_) rfl (by kernel_rfl) (by kernel_rfl) (by kernel_rfl) (fun _ _ _ h => h) (Or.inl ⟨by rfl, ?_⟩) (by assumption) ?_
        rotate_left; focus (intro w hSw; (try dsimp only at hSw); go_simp; try with_reducible rfl)
        (try simp only [List.getElem_toArray, List.getElem_cons_succ, List.getElem_cons_zero, Act.put, List.setIfInBounds_toArray, List.set_cons_zero, List.set_cons_succ])
        refine wpAnyH_take (i := 10) (v := ?_) rfl (by kernel_rfl) (by kernel_rfl) (by kernel_rfl) (fun _ _ _ h => h) (Or.inl ⟨by rfl, ?_⟩) (by assumption) ?_
        rotate_left; focus (intro w hSw; (try dsimp only at hSw); go_simp; try with_reducible rfl)
        (try simp only [List.getElem_toArray, List.getElem_cons_succ, List.getElem_cons_zero, Act.put, List.setIfInBounds_toArray, List.set_cons_zero, List.set_cons_succ])
        refine wpAnyH_take (i := 11) (v := ?_) rfl (by kernel_rfl) (by kernel_rfl) (by kernel_rfl) (fun _ _ _ h => h) (Or.inl ⟨by rfl, ?_⟩) (by assumption) ?_
        rotate_left; focus (intro w hSw; (try dsimp only at hSw); go_simp; try with_reducible rfl)
        (try simp only [List.getElem_toArray, List.getElem_cons_succ, List.getElem_cons_zero, Act.put, List.setIfInBounds_toArray, List.set_cons_zero, List.set_cons_succ])
        refine wpAnyH_take (i := 12) (v := ?_) rfl (by kernel_rfl) (by kernel_rfl) (by kernel_rfl) (fun _ _ _ h => h) (Or.inl ⟨by rfl, ?_⟩) (by assumption) ?_
        rotate_left; focus (intro w hSw; (try dsimp only at hSw); go_simp; try with_reducible rfl)
        (try simp only [List.getElem_toArray, List.getElem_cons_succ, List.getElem_cons_zero, Act.put, List.setIfInBounds_toArray, List.set_cons_zero, List.set_cons_succ])
        refine wpAnyH_take (i := 13) (v := ?_) rfl (by kernel_rfl) (by kernel_rfl) (by kernel_rfl) (fun _ _ _ h => h) (Or.inl ⟨by rfl, ?_⟩) (by assumption) ?_
        rotate_left; focus (intro w hSw; (try dsimp only at hSw); go_simp; try with_reducible rfl)
        (try simp only [List.getElem_toArray, List.getElem_cons_succ, List.getElem_cons_zero, Act.put, List.setIfInBounds_toArray, List.set_cons_zero, List.set_cons_succ])
        refine wpAnyH_ready (rs := [1, 14]) (by kernel_rfl) (by simp) ?_
        refine AllReadyH.cons rfl (fun K hK => ?_) ?_
        · skip
          go_simp
          refine hK.out _ _ ?_ (fun hH2 => ?_)
          · assumption
          clear hK K hH
          have hH := hH2; clear hH2
          (try simp only [List.getElem_toArray, List.getElem_cons_succ, List.getElem_cons_zero, Act.put, List.setIfInBounds_toArray, List.set_cons_zero, List.set_cons_succ])
          refine wpAnyH_ready (rs := [14]) (by kernel_rfl) (by simp) ?_
          refine AllReadyH.cons rfl (fun K hK => ?_) ?_
          · skip
            go_simp
            go_at_call 14
            (with_reducible refine (HCk.out _ (by exact Below.drew (Below.refl _ _))).mono ?_)
            rintro e w4 ⟨vn, rfl, hb40, hown⟩
            have hb4 : Below wr.heap.size wr w4 := (Below.refl _ _).drew.trans hb40
            have hT4 : ∀ o, w4.cell? ⟨w.heap.size + 1 + 1, o, none⟩ = (#[.int .i64 vop, .int .i64 vnum, .string vtx, .slice pa vpl pc, .slice qa k qc, .bool vopn, .slice none 0 0])[o]? := fun o => (hb4.cell (p := ⟨w.heap.size + 1 + 1, o, none⟩) hlt2).trans (c2 o)
            have hs4 : wr.heap.size ≤ w4.heap.size := hb4.size
            have hlt4 : w.heap.size + 1 + 1 < w4.heap.size := (by omega)
            replace hown := Lib.hid hown
            refine hK.out _ _ ?_ (fun hH2 => ?_)
            · exact ⟨SX.below hH.1 hb40, SW.below hH.2 hb40⟩
            clear hK K hH
            have hH := hH2; clear hH2
            (try simp only [List.getElem_toArray, List.getElem_cons_succ, List.getElem_cons_zero, Act.put, List.setIfInBounds_toArray, List.set_cons_zero, List.set_cons_succ])
            refine wpAnyH_take (i := 15) (v := ?_) rfl (by kernel_rfl) (by kernel_rfl) (by kernel_rfl) (fun _ _ _ h => h) (Or.inl ⟨by rfl, ?_⟩) (by assumption) ?_
            rotate_left; focus (intro w hSw; (try dsimp only at hSw); go_simp; try with_reducible rfl)
            (try simp only [List.getElem_toArray, List.getElem_cons_succ, List.getElem_cons_zero, Act.put, List.setIfInBounds_toArray, List.set_cons_zero, List.set_cons_succ])
            refine wpAnyH_ready (rs := [16]) (by kernel_rfl) (by simp) ?_
            refine AllReadyH.cons rfl (fun K hK => ?_) ?_
            · skip
              go_simp
              refine hK.out _ _ ?_ (fun hH2 => ?_)
              · exact ⟨hH.1.below (bel1 _ _), hH.2.below (bel1 _ _)⟩
              clear hK K hH
              have hH := hH2; clear hH2
              (try simp only [List.getElem_toArray, List.getElem_cons_succ, List.getElem_cons_zero, Act.put, List.setIfInBounds_toArray, List.set_cons_zero, List.set_cons_succ])
              refine wpAnyH_ready (rs := [17]) (by kernel_rfl) (by simp) ?_
              refine AllReadyH.cons rfl (fun K hK => ?_) ?_
              · skip
                refine step_append_lies _ (by rfl) _ _ 23 (by rfl) wc.heap.size 46 i46 _ 8 128 Tryd.underlying23 HI46.out.1 HI46.out.2.1 HI46.out.2.2.1 HI46.out.2.2.2 (by rfl) (by decide) (.slice qa k qc) k ys (by rfl) (own_below (own_below hAL.out.1 hb4) (bel1 _ _)) ⟨w4.heap.size, 0, none⟩ 1 1 (.string x.2.2.1[k].1 :: vn.cells) (by rfl) (by rfl) (World.news_of_block (new_cells w4 _ _)) (by intro u hu; simp [V7.cells] at hu; rcases hu with rfl | rfl | rfl | rfl | rfl | rfl | rfl | rfl <;> rfl) (by omega) (by unfold maxLen; omega) (by omega) (by simp; omega) (w4.heap.size + 1) (by simp) ?_
                intro g5 cap w5 hown5 hgrow hat hlt5
                have hrow : ∀ r, (Value.slice qa k qc).ownBlock = some r → wc.heap.size ≤ r := fun r hr => (hAL.out.1.lt r hr).1
                obtain ⟨hT5, hT6⟩ := box_set (off := 4) (u := .slice (some ⟨g5, 0, none⟩) (k + 1) cap) hO.out hlt2 hb4 hgrow (by intro e; have := hrow _ e; omega)
                have hT5c := cells_of hT5
                have hT5f := cells_free hT5
                refine hK.out _ _ ?_ (fun hH2 => ?_)
                · exact ⟨hH.1.grown hgrow (by intro e; have := hrow _ e; omega), hH.2.grown hgrow (by intro e; have := hrow _ e; omega)⟩
                clear hK K hH
                have hH := hH2; clear hH2
                (try simp only [List.getElem_toArray, List.getElem_cons_succ, List.getElem_cons_zero, Act.put, List.setIfInBounds_toArray, List.set_cons_zero, List.set_cons_succ])
                refine wpAnyH_take (i := 18) (v := ?_) rfl (by kernel_rfl) (by kernel_rfl) (by kernel_rfl) (fun _ _ _ h => h) (Or.inl ⟨by rfl, ?_⟩) (by assumption) ?_
                rotate_left; focus (intro w hSw; (try dsimp only at hSw); go_simp; try with_reducible rfl)
                (try simp only [List.getElem_toArray, List.getElem_cons_succ, List.getElem_cons_zero, Act.put, List.setIfInBounds_toArray, List.set_cons_zero, List.set_cons_succ])
                refine wpAnyH_ready (rs := [19]) (by kernel_rfl) (by simp) ?_
                refine AllReadyH.cons rfl (fun K hK => ?_) ?_
                · skip
                  go_simp
                  refine hK.out _ _ ?_ (fun hH2 => ?_)
                  · exact ⟨hH.1.set (by omega), hH.2.set (by omega)⟩
                  clear hK K hH
                  have hH := hH2; clear hH2
                  (try simp only [List.getElem_toArray, List.getElem_cons_succ, List.getElem_cons_zero, Act.put, List.setIfInBounds_toArray, List.set_cons_zero, List.set_cons_succ])
                  refine wpAnyH_done (by kernel_rfl) ?_ _
                  clear hH
                  have HF1 := Lib.hid (AL.next2 (tB := w.heap.size + 1 + 1) (off := 4) (u := .slice (some ⟨g5, 0, none⟩) (k + 1) cap) hAL.out hLl HLE.out (by omega) (by omega) hb4 hown.out hown5 hgrow hat)
                  have HF2 := Lib.hid (PL.app (off := 4) (u := .slice (some ⟨g5, 0, none⟩) (k + 1) cap) hPL hb4 hgrow hrow (by omega) (by omega))
                  replace hT6 := Lib.hid hT6
                  clear hT5 hT5c hT5f hT4 c0 c2 f2 hown5 hgrow hb40 hb4
                  go_wp2
                  go_roundw
                  case rel => exact ⟨k + 1, _, _, _, by omega, by go_num, HF2.out, hT6, HF1⟩
                  case measure => simp [intOf]; omega
                exact AllReadyH.nil
              exact AllReadyH.nil
            exact AllReadyH.nil
          exact AllReadyH.nil
        refine AllReadyH.cons rfl (fun K hK => ?_) ?_
        · skip
          go_simp
          go_at_call 14
          (with_reducible refine (HCk.out _ (by exact Below.drew (Below.refl _ _))).mono ?_)
          rintro e w4 ⟨vn, rfl, hb40, hown⟩
          have hb4 : Below wr.heap.size wr w4 := (Below.refl _ _).drew.trans hb40
          have hT4 : ∀ o, w4.cell? ⟨w.heap.size + 1 + 1, o, none⟩ = (#[.int .i64 vop, .int .i64 vnum, .string vtx, .slice pa vpl pc, .slice qa k qc, .bool vopn, .slice none 0 0])[o]? := fun o => (hb4.cell (p := ⟨w.heap.size + 1 + 1, o, none⟩) hlt2).trans (c2 o)
          have hs4 : wr.heap.size ≤ w4.heap.size := hb4.size
          have hlt4 : w.heap.size + 1 + 1 < w4.heap.size := (by omega)
          replace hown := Lib.hid hown
          refine hK.out _ _ ?_ (fun hH2 => ?_)
          · exact ⟨SX.below hH.1 hb40, SW.below hH.2 hb40⟩
          clear hK K hH
          have hH := hH2; clear hH2
          (try simp only [List.getElem_toArray, List.getElem_cons_succ, List.getElem_cons_zero, Act.put, List.setIfInBounds_toArray, List.set_cons_zero, List.set_cons_succ])
          refine wpAnyH_take (i := 15) (v := ?_) rfl (by kernel_rfl) (by kernel_rfl) (by kernel_rfl) (fun _ _ _ h => h) (Or.inl ⟨by rfl, ?_⟩) (by assumption) ?_
          rotate_left; focus (intro w hSw; (try dsimp only at hSw); go_simp; try with_reducible rfl)
          (try simp only [List.getElem_toArray, List.getElem_cons_succ, List.getElem_cons_zero, Act.put, List.setIfInBounds_toArray, List.set_cons_zero, List.set_cons_succ])
          refine wpAnyH_ready (rs := [1, 16]) (by kernel_rfl) (by simp) ?_
          refine AllReadyH.cons rfl (fun K hK => ?_) ?_
          · skip
            go_simp
            refine hK.out _ _ ?_ (fun hH2 => ?_)
            · assumption
            clear hK K hH
            have hH := hH2; clear hH2
            (try simp only [List.getElem_toArray, List.getElem_cons_succ, List.getElem_cons_zero, Act.put, List.setIfInBounds_toArray, List.set_cons_zero, List.set_cons_succ])
            refine wpAnyH_ready (rs := [16]) (by kernel_rfl) (by simp) ?_
            refine AllReadyH.cons rfl (fun K hK => ?_) ?_
            · skip
              go_simp
              refine hK.out _ _ ?_ (fun hH2 => ?_)
              · exact ⟨hH.1.below (bel1 _ _), hH.2.below (bel1 _ _)⟩
              clear hK K hH
              have hH := hH2; clear hH2
              (try simp only [List.getElem_toArray, List.getElem_cons_succ, List.getElem_cons_zero, Act.put, List.setIfInBounds_toArray, List.set_cons_zero, List.set_cons_succ])
              refine wpAnyH_ready (rs := [17]) (by kernel_rfl) (by simp) ?_
              refine AllReadyH.cons rfl (fun K hK => ?_) ?_
              · skip
                refine step_append_lies _ (by rfl) _ _ 23 (by rfl) wc.heap.size 46 i46 _ 8 128 Tryd.underlying23 HI46.out.1 HI46.out.2.1 HI46.out.2.2.1 HI46.out.2.2.2 (by rfl) (by decide) (.slice qa k qc) k ys (by rfl) (own_below (own_below hAL.out.1 hb4) (bel1 _ _)) ⟨w4.heap.size, 0, none⟩ 1 1 (.string x.2.2.1[k].1 :: vn.cells) (by rfl) (by rfl) (World.news_of_block (new_cells w4 _ _)) (by intro u hu; simp [V7.cells] at hu; rcases hu with rfl | rfl | rfl | rfl | rfl | rfl | rfl | rfl <;> rfl) (by omega) (by unfold maxLen; omega) (by omega) (by simp; omega) (w4.heap.size + 1) (by simp) ?_
                intro g5 cap w5 hown5 hgrow hat hlt5
                have hrow : ∀ r, (Value.slice qa k qc).ownBlock = some r → wc.heap.size ≤ r := fun r hr => (hAL.out.1.lt r hr).1
                obtain ⟨hT5, hT6⟩ := box_set (off := 4) (u := .slice (some ⟨g5, 0, none⟩) (k + 1) cap) hO.out hlt2 hb4 hgrow (by intro e; have := hrow _ e; omega)
                have hT5c := cells_of hT5
                have hT5f := cells_free hT5
                refine hK.out _ _ ?_ (fun hH2 => ?_)
                · exact ⟨hH.1.grown hgrow (by intro e; have := hrow _ e; omega), hH.2.grown hgrow (by intro e; have := hrow _ e; omega)⟩
                clear hK K hH
                have hH := hH2; clear hH2
                (try simp only [List.getElem_toArray, List.getElem_cons_succ, List.getElem_cons_zero, Act.put, List.setIfInBounds_toArray, List.set_cons_zero, List.set_cons_succ])
                refine wpAnyH_take (i := 18) (v := ?_) rfl (by kernel_rfl) (by kernel_rfl) (by kernel_rfl) (fun _ _ _ h => h) (Or.inl ⟨by rfl, ?_⟩) (by assumption) ?_
                rotate_left; focus (intro w hSw; (try dsimp only at hSw); go_simp; try with_reducible rfl)
                (try simp only [List.getElem_toArray, List.getElem_cons_succ, List.getElem_cons_zero, Act.put, List.setIfInBounds_toArray, List.set_cons_zero, List.set_cons_succ])
                refine wpAnyH_ready (rs := [19]) (by kernel_rfl) (by simp) ?_
                refine AllReadyH.cons rfl (fun K hK => ?_) ?_
                · skip
                  go_simp
                  refine hK.out _ _ ?_ (fun hH2 => ?_)
                  · exact ⟨hH.1.set (by omega), hH.2.set (by omega)⟩
                  clear hK K hH
                  have hH := hH2; clear hH2
                  (try simp only [List.getElem_toArray, List.getElem_cons_succ, List.getElem_cons_zero, Act.put, List.setIfInBounds_toArray, List.set_cons_zero, List.set_cons_succ])
                  refine wpAnyH_done (by kernel_rfl) ?_ _
                  clear hH
                  have HF1 := Lib.hid (AL.next2 (tB := w.heap.size + 1 + 1) (off := 4) (u := .slice (some ⟨g5, 0, none⟩) (k + 1) cap) hAL.out hLl HLE.out (by omega) (by omega) hb4 hown.out hown5 hgrow hat)
                  have HF2 := Lib.hid (PL.app (off := 4) (u := .slice (some ⟨g5, 0, none⟩) (k + 1) cap) hPL hb4 hgrow hrow (by omega) (by omega))
                  replace hT6 := Lib.hid hT6
                  clear hT5 hT5c hT5f hT4 c0 c2 f2 hown5 hgrow hb40 hb4
                  go_wp2
                  go_roundw
                  case rel => exact ⟨k + 1, _, _, _, by omega, by go_num, HF2.out, hT6, HF1⟩
                  case measure => simp [intOf]; omega
                exact AllReadyH.nil
              exact AllReadyH.nil
            exact AllReadyH.nil
          refine AllReadyH.cons rfl (fun K hK => ?_) ?_
          · skip
            go_simp
            refine hK.out _ _ ?_ (fun hH2 => ?_)
            · exact ⟨hH.1.below (bel1 _ _), hH.2.below (bel1 _ _)⟩
            clear hK K hH
            have hH := hH2; clear hH2
            (try simp only [List.getElem_toArray, List.getElem_cons_succ, List.getElem_cons_zero, Act.put, List.setIfInBounds_toArray, List.set_cons_zero, List.set_cons_succ])
            refine wpAnyH_ready (rs := [1]) (by kernel_rfl) (by simp) ?_
            refine AllReadyH.cons rfl (fun K hK => ?_) ?_
            · skip
              go_simp
              refine hK.out _ _ ?_ (fun hH2 => ?_)
              · assumption
              clear hK K hH
              have hH := hH2; clear hH2
              (try simp only [List.getElem_toArray, List.getElem_cons_succ, List.getElem_cons_zero, Act.put, List.setIfInBounds_toArray, List.set_cons_zero, List.set_cons_succ])
              refine wpAnyH_ready (rs := [17]) (by kernel_rfl) (by simp) ?_
              refine AllReadyH.cons rfl (fun K hK => ?_) ?_
              · skip
                refine step_append_lies _ (by rfl) _ _ 23 (by rfl) wc.heap.size 46 i46 _ 8 128 Tryd.underlying23 HI46.out.1 HI46.out.2.1 HI46.out.2.2.1 HI46.out.2.2.2 (by rfl) (by decide) (.slice qa k qc) k ys (by rfl) (own_below (own_below hAL.out.1 hb4) (bel1 _ _)) ⟨w4.heap.size, 0, none⟩ 1 1 (.string x.2.2.1[k].1 :: vn.cells) (by rfl) (by rfl) (World.news_of_block (new_cells w4 _ _)) (by intro u hu; simp [V7.cells] at hu; rcases hu with rfl | rfl | rfl | rfl | rfl | rfl | rfl | rfl <;> rfl) (by omega) (by unfold maxLen; omega) (by omega) (by simp; omega) (w4.heap.size + 1) (by simp) ?_
                intro g5 cap w5 hown5 hgrow hat hlt5
                have hrow : ∀ r, (Value.slice qa k qc).ownBlock = some r → wc.heap.size ≤ r := fun r hr => (hAL.out.1.lt r hr).1
                obtain ⟨hT5, hT6⟩ := box_set (off := 4) (u := .slice (some ⟨g5, 0, none⟩) (k + 1) cap) hO.out hlt2 hb4 hgrow (by intro e; have := hrow _ e; omega)
                have hT5c := cells_of hT5
                have hT5f := cells_free hT5
                refine hK.out _ _ ?_ (fun hH2 => ?_)
                · exact ⟨hH.1.grown hgrow (by intro e; have := hrow _ e; omega), hH.2.grown hgrow (by intro e; have := hrow _ e; omega)⟩
                clear hK K hH
                have hH := hH2; clear hH2
                (try simp only [List.getElem_toArray, List.getElem_cons_succ, List.getElem_cons_zero, Act.put, List.setIfInBounds_toArray, List.set_cons_zero, List.set_cons_succ])
                refine wpAnyH_take (i := 18) (v := ?_) rfl (by kernel_rfl) (by kernel_rfl) (by kernel_rfl) (fun _ _ _ h => h) (Or.inl ⟨by rfl, ?_⟩) (by assumption) ?_
                rotate_left; focus (intro w hSw; (try dsimp only at hSw); go_simp; try with_reducible rfl)
                (try simp only [List.getElem_toArray, List.getElem_cons_succ, List.getElem_cons_zero, Act.put, List.setIfInBounds_toArray, List.set_cons_zero, List.set_cons_succ])
                refine wpAnyH_ready (rs := [19]) (by kernel_rfl) (by simp) ?_
                refine AllReadyH.cons rfl (fun K hK => ?_) ?_
                · skip
                  go_simp
                  refine hK.out _ _ ?_ (fun hH2 => ?_)
                  · exact ⟨hH.1.set (by omega), hH.2.set (by omega)⟩
                  clear hK K hH
                  have hH := hH2; clear hH2
                  (try simp only [List.getElem_toArray, List.getElem_cons_succ, List.getElem_cons_zero, Act.put, List.setIfInBounds_toArray, List.set_cons_zero, List.set_cons_succ])
                  refine wpAnyH_done (by kernel_rfl) ?_ _
                  clear hH
                  have HF1 := Lib.hid (AL.next2 (tB := w.heap.size + 1 + 1) (off := 4) (u := .slice (some ⟨g5, 0, none⟩) (k + 1) cap) hAL.out hLl HLE.out (by omega) (by omega) hb4 hown.out hown5 hgrow hat)
                  have HF2 := Lib.hid (PL.app (off := 4) (u := .slice (some ⟨g5, 0, none⟩) (k + 1) cap) hPL hb4 hgrow hrow (by omega) (by omega))
                  replace hT6 := Lib.hid hT6
                  clear hT5 hT5c hT5f hT4 c0 c2 f2 hown5 hgrow hb40 hb4
                  go_wp2
                  go_roundw
                  case rel => exact ⟨k + 1, _, _, _, by omega, by go_num, HF2.out, hT6, HF1⟩
                  case measure => simp [intOf]; omega
                exact AllReadyH.nil
              exact AllReadyH.nil
            exact AllReadyH.nil
          exact AllReadyH.nil
        exact AllReadyH.nil
      · have hge : (vql : Int) ≤ (k : Int) := by omega
        have hnl : ¬ ((k : Int) < (vql : Int)) := by omega
        have hkq : vql = k := by omega
        subst hkq
        obtain ⟨wo, hwo⟩ : ∃ wo, wo = wr := ⟨_, rfl⟩
        subst hwo
        have HPO := Lib.hid hPL
        have HO2 := hO
        have HPAIR := Lib.hid (AL.pairs' hAL.out HQ.out.1 HQ.out.2.1)
        clear hAL hO hk c2 f2
        obtain ⟨i26, hi, hz0, hz1, hz2⟩ := info_parts info26
        have HI26 := Lib.hid (show Tryd.prog.info? 26 = some i26 ∧ i26.zero = _ ∧ i26.size = 7 ∧ i26.bytes = 112 from ⟨hi, hz0, hz1, hz2⟩)
        clear hi hz0 hz1 hz2
        go_wp2
        go_loopw [5] (fun i wr => ∃ (k : Nat) (ka : Option Addr) (kc : Nat) (ys : List Value), k ≤ vkl ∧ i = .int .i64 k ∧ PL w wo (w.heap.size + 1 + 1) wr ∧ Hid (wr.heap[w.heap.size + 1 + 1]? = some (.cells #[.int .i64 vop, .int .i64 vnum, .string vtx, .slice pa vpl pc, .slice qa vql qc, .bool vopn, .slice ka k kc] 26 (0, 0))) ∧ Hid (AL wr wo.heap.size 26 7 n k (.slice ka k kc) ys (x.2.2.2.map (fun x => ([], x))))) (fun i _ => vkl - (intOf i).toNat)
        case atStart => exact ⟨0, none, 0, [], Nat.zero_le _, rfl, ⟨HPO.out.bel, Nat.le_refl _, fun _ _ _ => rfl⟩, HO2, Lib.hid (AL.zero _ _ _ _ _ _)⟩
        case round =>
          obtain ⟨k, ka, kc, ys, hk, rfl, hPL, hO, hAL⟩ := hrel
          have hsz := hPL.size
          have hbw := hPL.bel.size
          have hBX := ((hPL.but _ (by omega) (by omega)).trans ((HPO.out.but _ (by omega) (by omega)).trans hC.box))
          have c0 := cells_of hBX
          have c2 := cells_of hO.out
          have f2 := cells_free hO.out
          by_cases hlt : k < vkl
          · have hkx : k < x.2.2.2.length := by have := HK.out.1; omega
            obtain ⟨g, off, e, hg, hc⟩ := HK.out.2.2 (by omega)
            have hv1 := hc k hkx
            obtain rfl := e
            obtain ⟨v1, hE, hI⟩ := hv1
            obtain ⟨d0, d1, d2, d3, d4, d5, d6⟩ := id hE
            have i1 : (0 : Int) ≤ (k : Int) := by omega
            have i2 : (k : Int) < (vkl : Int) := by omega
            have hgB : g < w.heap.size := Nat.lt_of_lt_of_le hg hB
            have hsk : SmallE n (d - 1) x.2.2.2[k] := HSM.out.2.2.2.2.2.2.2 k hkx
            have HCk : Hid (∀ U, Below wr.heap.size wr U → Calls Tryd.prog 14 #[.agg #[.int .i64 v1.op, .int .i64 v1.num, .string v1.tx, .slice v1.pa v1.pl v1.pc, .slice v1.qa v1.ql v1.qc, .bool v1.opn, .slice v1.ka v1.kl v1.kc]] U (PlainPost n x.2.2.2[k] U)) := Lib.hid (fun U hU => HD.out U B v1 _ (d - 1) (by have := hU.size; omega) hsk (ExIn.kept ((hPL.bel.trans (hU.mono hbw)).mono hB) n _ _ hI))
            have SB0 : SX w.heap.size #[.int .i64 vop, .int .i64 vnum, .string vtx, .slice vpa vpl vpc, .slice vqa vql vqc, .bool vopn, .slice (some ⟨g, off, none⟩) vkl vkc] wr := SX.of hBX
            have SG0 : SW g w wr := ⟨fun o => hPL.bel.cell (p := ⟨g, o, none⟩) hgB, by omega⟩
            have hlt2 := lt_of_block hO.out
            have hLl : k < ((x.2.2.2.map (fun x => ([], x))) : List (List Value × Ex n)).length := by rw [List.length_map]; exact hkx
            have hLe : ((x.2.2.2.map (fun x => ([], x))) : List (List Value × Ex n))[k]'hLl = ([], x.2.2.2[k]) := by rw [List.getElem_map]
            have HLE := Lib.hid hLe
            clear hLe hE hI hsk hc
            go_wp2_with fail
            refine wp_region_held_drew (S := (fun U => SX w.heap.size #[.int .i64 vop, .int .i64 vnum, .string vtx, .slice vpa vpl vpc, .slice vqa vql vqc, .bool vopn, .slice (some ⟨g, off, none⟩) vkl vkc] U ∧ SW g w U)) (by kernel_rfl) ?_ (fun hH => ?_)
            · exact ⟨SX.drew SB0, SW.drew SG0⟩
            refine wpAnyH_take (i := 0) (v := ?_) rfl (by kernel_rfl) (by kernel_rfl) (by kernel_rfl) (fun _ _ _ h => h) (Or.inl ⟨by rfl, ?_⟩) (by assumption) ?_
            rotate_left; focus (intro w hSw; (try dsimp only at hSw); go_simp; try with_reducible rfl)
            (try simp only [List.getElem_toArray, List.getElem_cons_succ, List.getElem_cons_zero, Act.put, List.setIfInBounds_toArray, List.set_cons_zero, List.set_cons_succ])
            refine wpAnyH_take (i := 2) (v := ?_) rfl (by kernel_rfl) (by kernel_rfl) (by kernel_rfl) (fun _ _ _ h => h) (Or.inl ⟨by rfl, ?_⟩) (by assumption) ?_
            rotate_left; focus (intro w hSw; (try dsimp only at hSw); go_simp; try with_reducible rfl)
            (try simp only [List.getElem_toArray, List.getElem_cons_succ, List.getElem_cons_zero, Act.put, List.setIfInBounds_toArray, List.set_cons_zero, List.set_cons_succ])
            refine wpAnyH_take (i := 3) (v := ?_) rfl (by kernel_rfl) (by kernel_rfl) (by kernel_rfl) (fun _ _ _ h => h) (Or.inl ⟨by rfl, ?_⟩) (by assumption) ?_
            rotate_left; focus (intro w hSw; (try dsimp only at hSw); go_simp; try with_reducible rfl)
            (try simp only [List.getElem_toArray, List.getElem_cons_succ, List.getElem_cons_zero, Act.put, List.setIfInBounds_toArray, List.set_cons_zero, List.set_cons_succ])
            refine wpAnyH_take (i := 4) (v := ?_) rfl (by kernel_rfl) (by kernel_rfl) (by kernel_rfl) (fun _ _ _ h => h) (Or.inl ⟨by rfl, ?_⟩) (by assumption) ?_
            rotate_left; focus (intro w hSw; (try dsimp only at hSw); go_simp; try with_reducible rfl)
            (try simp only [List.getElem_toArray, List.getElem_cons_succ, List.getElem_cons_zero, Act.put, List.setIfInBounds_toArray, List.set_cons_zero, List.set_cons_succ])
            refine wpAnyH_take (i := 5) (v := ?_) rfl (by kernel_rfl) (by kernel_rfl) (by kernel_rfl) (fun _ _ _ h => h) (Or.inl ⟨by rfl, ?_⟩) (by assumption) ?_
            rotate_left; focus (intro w hSw; (try dsimp only at hSw); go_simp; try with_reducible rfl)
            (try simp only [List.getElem_toArray, List.getElem_cons_succ, List.getElem_cons_zero, Act.put, List.setIfInBounds_toArray, List.set_cons_zero, List.set_cons_succ])
            refine wpAnyH_take (i := 6) (v := ?_) rfl (by kernel_rfl) (by kernel_rfl) (by kernel_rfl) (fun _ _ _ h => h) (Or.inl ⟨by rfl, ?_⟩) (by assumption) ?_
            rotate_left; focus (intro w hSw; (try dsimp only at hSw); go_simp; try with_reducible rfl)
            (try simp only [List.getElem_toArray, List.getElem_cons_succ, List.getElem_cons_zero, Act.put, List.setIfInBounds_toArray, List.set_cons_zero, List.set_cons_succ])
            refine wpAnyH_ready (rs := [1, 7]) (by kernel_rfl) (by simp) ?_
            refine AllReadyH.cons rfl (fun K hK => ?_) ?_
            · skip
              go_simp
              refine hK.out _ _ ?_ (fun hH2 => ?_)
              · assumption
              clear hK K hH
              have hH := hH2; clear hH2
              (try simp only [List.getElem_toArray, List.getElem_cons_succ, List.getElem_cons_zero, Act.put, List.setIfInBounds_toArray, List.set_cons_zero, List.set_cons_succ])
              refine wpAnyH_ready (rs := [7]) (by kernel_rfl) (by simp) ?_
              refine AllReadyH.cons rfl (fun K hK => ?_) ?_
              · skip
                go_simp
                go_at_call 14
                (with_reducible refine (HCk.out _ (by exact Below.drew (Below.refl _ _))).mono ?_)
                rintro e w4 ⟨vn, rfl, hb40, hown⟩
                have hb4 : Below wr.heap.size wr w4 := (Below.refl _ _).drew.trans hb40
                have hT4 : ∀ o, w4.cell? ⟨w.heap.size + 1 + 1, o, none⟩ = (#[.int .i64 vop, .int .i64 vnum, .string vtx, .slice pa vpl pc, .slice qa vql qc, .bool vopn, .slice ka k kc])[o]? := fun o => (hb4.cell (p := ⟨w.heap.size + 1 + 1, o, none⟩) hlt2).trans (c2 o)
                have hs4 : wr.heap.size ≤ w4.heap.size := hb4.size
                have hlt4 : w.heap.size + 1 + 1 < w4.heap.size := (by omega)
                replace hown := Lib.hid hown
                refine hK.out _ _ ?_ (fun hH2 => ?_)
                · exact ⟨SX.below hH.1 hb40, SW.below hH.2 hb40⟩
                clear hK K hH
                have hH := hH2; clear hH2
                (try simp only [List.getElem_toArray, List.getElem_cons_succ, List.getElem_cons_zero, Act.put, List.setIfInBounds_toArray, List.set_cons_zero, List.set_cons_succ])
                refine wpAnyH_ready (rs := [8]) (by kernel_rfl) (by simp) ?_
                refine AllReadyH.cons rfl (fun K hK => ?_) ?_
                · skip
                  go_simp
                  refine hK.out _ _ ?_ (fun hH2 => ?_)
                  · exact ⟨hH.1.below (bel1 _ _), hH.2.below (bel1 _ _)⟩
                  clear hK K hH
                  have hH := hH2; clear hH2
                  (try simp only [List.getElem_toArray, List.getElem_cons_succ, List.getElem_cons_zero, Act.put, List.setIfInBounds_toArray, List.set_cons_zero, List.set_cons_succ])
                  refine wpAnyH_ready (rs := [9]) (by kernel_rfl) (by simp) ?_
                  refine AllReadyH.cons rfl (fun K hK => ?_) ?_
                  · skip
                    refine step_append_lies _ (by rfl) _ _ 24 (by rfl) wo.heap.size 26 i26 _ 7 112 Tryd.underlying24 HI26.out.1 HI26.out.2.1 HI26.out.2.2.1 HI26.out.2.2.2 (by rfl) (by decide) (.slice ka k kc) k ys (by rfl) (own_below (own_below hAL.out.1 hb4) (bel1 _ _)) ⟨w4.heap.size, 0, none⟩ 1 1 vn.cells (by rfl) (by rfl) (World.news_of_block (new_cells w4 _ _)) (by intro u hu; simp [V7.cells] at hu; rcases hu with rfl | rfl | rfl | rfl | rfl | rfl | rfl <;> rfl) (by omega) (by unfold maxLen; omega) (by omega) (by simp; omega) (w4.heap.size + 1) (by simp) ?_
                    intro g5 cap w5 hown5 hgrow hat hlt5
                    have hrow : ∀ r, (Value.slice ka k kc).ownBlock = some r → wo.heap.size ≤ r := fun r hr => (hAL.out.1.lt r hr).1
                    obtain ⟨hT5, hT6⟩ := box_set (off := 6) (u := .slice (some ⟨g5, 0, none⟩) (k + 1) cap) hO.out hlt2 hb4 hgrow (by intro e; have := hrow _ e; omega)
                    have hT5c := cells_of hT5
                    have hT5f := cells_free hT5
                    refine hK.out _ _ ?_ (fun hH2 => ?_)
                    · exact ⟨hH.1.grown hgrow (by intro e; have := hrow _ e; omega), hH.2.grown hgrow (by intro e; have := hrow _ e; omega)⟩
                    clear hK K hH
                    have hH := hH2; clear hH2
                    (try simp only [List.getElem_toArray, List.getElem_cons_succ, List.getElem_cons_zero, Act.put, List.setIfInBounds_toArray, List.set_cons_zero, List.set_cons_succ])
                    refine wpAnyH_take (i := 10) (v := ?_) rfl (by kernel_rfl) (by kernel_rfl) (by kernel_rfl) (fun _ _ _ h => h) (Or.inl ⟨by rfl, ?_⟩) (by assumption) ?_
                    rotate_left; focus (intro w hSw; (try dsimp only at hSw); go_simp; try with_reducible rfl)
                    (try simp only [List.getElem_toArray, List.getElem_cons_succ, List.getElem_cons_zero, Act.put, List.setIfInBounds_toArray, List.set_cons_zero, List.set_cons_succ])
                    refine wpAnyH_ready (rs := [11]) (by kernel_rfl) (by simp) ?_
                    refine AllReadyH.cons rfl (fun K hK => ?_) ?_
                    · skip
                      go_simp
                      refine hK.out _ _ ?_ (fun hH2 => ?_)
                      · exact ⟨hH.1.set (by omega), hH.2.set (by omega)⟩
                      clear hK K hH
                      have hH := hH2; clear hH2
                      (try simp only [List.getElem_toArray, List.getElem_cons_succ, List.getElem_cons_zero, Act.put, List.setIfInBounds_toArray, List.set_cons_zero, List.set_cons_succ])
                      refine wpAnyH_done (by kernel_rfl) ?_ _
                      clear hH
                      have HF1 := Lib.hid (AL.next2 (tB := w.heap.size + 1 + 1) (off := 6) (u := .slice (some ⟨g5, 0, none⟩) (k + 1) cap) hAL.out hLl HLE.out (by omega) (by omega) hb4 hown.out hown5 hgrow hat)
                      have HF2 := Lib.hid (PL.app (off := 6) (u := .slice (some ⟨g5, 0, none⟩) (k + 1) cap) hPL hb4 hgrow hrow (by omega) (by omega))
                      replace hT6 := Lib.hid hT6
                      clear hT5 hT5c hT5f hT4 c0 c2 f2 hown5 hgrow hb40 hb4
                      go_wp2
                      go_roundw
                      case rel => exact ⟨k + 1, _, _, _, by omega, by go_num, HF2.out, hT6, HF1⟩
                      case measure => simp [intOf]; omega
                    exact AllReadyH.nil
                  exact AllReadyH.nil
                exact AllReadyH.nil
              exact AllReadyH.nil
            refine AllReadyH.cons rfl (fun K hK => ?_) ?_
            · skip
              go_simp
              go_at_call 14
              (with_reducible refine (HCk.out _ (by exact Below.drew (Below.refl _ _))).mono ?_)
              rintro e w4 ⟨vn, rfl, hb40, hown⟩
              have hb4 : Below wr.heap.size wr w4 := (Below.refl _ _).drew.trans hb40
              have hT4 : ∀ o, w4.cell? ⟨w.heap.size + 1 + 1, o, none⟩ = (#[.int .i64 vop, .int .i64 vnum, .string vtx, .slice pa vpl pc, .slice qa vql qc, .bool vopn, .slice ka k kc])[o]? := fun o => (hb4.cell (p := ⟨w.heap.size + 1 + 1, o, none⟩) hlt2).trans (c2 o)
              have hs4 : wr.heap.size ≤ w4.heap.size := hb4.size
              have hlt4 : w.heap.size + 1 + 1 < w4.heap.size := (by omega)
              replace hown := Lib.hid hown
              refine hK.out _ _ ?_ (fun hH2 => ?_)
              · exact ⟨SX.below hH.1 hb40, SW.below hH.2 hb40⟩
              clear hK K hH
              have hH := hH2; clear hH2
              (try simp only [List.getElem_toArray, List.getElem_cons_succ, List.getElem_cons_zero, Act.put, List.setIfInBounds_toArray, List.set_cons_zero, List.set_cons_succ])
              refine wpAnyH_ready (rs := [1, 8]) (by kernel_rfl) (by simp) ?_
              refine AllReadyH.cons rfl (fun K hK => ?_) ?_
              · skip
                go_simp
                refine hK.out _ _ ?_ (fun hH2 => ?_)
                · assumption
                clear hK K hH
                have hH := hH2; clear hH2
                (try simp only [List.getElem_toArray, List.getElem_cons_succ, List.getElem_cons_zero, Act.put, List.setIfInBounds_toArray, List.set_cons_zero, List.set_cons_succ])
                refine wpAnyH_ready (rs := [8]) (by kernel_rfl) (by simp) ?_
                refine AllReadyH.cons rfl (fun K hK => ?_) ?_
                · skip
                  go_simp
                  refine hK.out _ _ ?_ (fun hH2 => ?_)
                  · exact ⟨hH.1.below (bel1 _ _), hH.2.below (bel1 _ _)⟩
                  clear hK K hH
                  have hH := hH2; clear hH2
                  (try simp only [List.getElem_toArray, List.getElem_cons_succ, List.getElem_cons_zero, Act.put, List.setIfInBounds_toArray, List.set_cons_zero, List.set_cons_succ])
                  refine wpAnyH_ready (rs := [9]) (by kernel_rfl) (by simp) ?_
                  refine AllReadyH.cons rfl (fun K hK => ?_) ?_
                  · skip
                    refine step_append_lies _ (by rfl) _ _ 24 (by rfl) wo.heap.size 26 i26 _ 7 112 Tryd.underlying24 HI26.out.1 HI26.out.2.1 HI26.out.2.2.1 HI26.out.2.2.2 (by rfl) (by decide) (.slice ka k kc) k ys (by rfl) (own_below (own_below hAL.out.1 hb4) (bel1 _ _)) ⟨w4.heap.size, 0, none⟩ 1 1 vn.cells (by rfl) (by rfl) (World.news_of_block (new_cells w4 _ _)) (by intro u hu; simp [V7.cells] at hu; rcases hu with rfl | rfl | rfl | rfl | rfl | rfl | rfl <;> rfl) (by omega) (by unfold maxLen; omega) (by omega) (by simp; omega) (w4.heap.size + 1) (by simp) ?_
                    intro g5 cap w5 hown5 hgrow hat hlt5
                    have hrow : ∀ r, (Value.slice ka k kc).ownBlock = some r → wo.heap.size ≤ r := fun r hr => (hAL.out.1.lt r hr).1
                    obtain ⟨hT5, hT6⟩ := box_set (off := 6) (u := .slice (some ⟨g5, 0, none⟩) (k + 1) cap) hO.out hlt2 hb4 hgrow (by intro e; have := hrow _ e; omega)
                    have hT5c := cells_of hT5
                    have hT5f := cells_free hT5
                    refine hK.out _ _ ?_ (fun hH2 => ?_)
                    · exact ⟨hH.1.grown hgrow (by intro e; have := hrow _ e; omega), hH.2.grown hgrow (by intro e; have := hrow _ e; omega)⟩
                    clear hK K hH
                    have hH := hH2; clear hH2
                    (try simp only [List.getElem_toArray, List.getElem_cons_succ, List.getElem_cons_zero, Act.put, List.setIfInBounds_toArray, List.set_cons_zero, List.set_cons_succ])
                    refine wpAnyH_take (i := 10) (v := ?_) rfl (by kernel_rfl) (by kernel_rfl) (by kernel_rfl) (fun _ _ _ h => h) (Or.inl ⟨by rfl, ?_⟩) (by assumption) ?_
                    rotate_left; focus (intro w hSw; (try dsimp only at hSw); go_simp; try with_reducible rfl)
                    (try simp only [List.getElem_toArray, List.getElem_cons_succ, List.getElem_cons_zero, Act.put, List.setIfInBounds_toArray, List.set_cons_zero, List.set_cons_succ])
                    refine wpAnyH_ready (rs := [11]) (by kernel_rfl) (by simp) ?_
                    refine AllReadyH.cons rfl (fun K hK => ?_) ?_
                    · skip
                      go_simp
                      refine hK.out _ _ ?_ (fun hH2 => ?_)
                      · exact ⟨hH.1.set (by omega), hH.2.set (by omega)⟩
                      clear hK K hH
                      have hH := hH2; clear hH2
                      (try simp only [List.getElem_toArray, List.getElem_cons_succ, List.getElem_cons_zero, Act.put, List.setIfInBounds_toArray, List.set_cons_zero, List.set_cons_succ])
                      refine wpAnyH_done (by kernel_rfl) ?_ _
                      clear hH
                      have HF1 := Lib.hid (AL.next2 (tB := w.heap.size + 1 + 1) (off := 6) (u := .slice (some ⟨g5, 0, none⟩) (k + 1) cap) hAL.out hLl HLE.out (by omega) (by omega) hb4 hown.out hown5 hgrow hat)
                      have HF2 := Lib.hid (PL.app (off := 6) (u := .slice (some ⟨g5, 0, none⟩) (k + 1) cap) hPL hb4 hgrow hrow (by omega) (by omega))
                      replace hT6 := Lib.hid hT6
                      clear hT5 hT5c hT5f hT4 c0 c2 f2 hown5 hgrow hb40 hb4
                      go_wp2
                      go_roundw
                      case rel => exact ⟨k + 1, _, _, _, by omega, by go_num, HF2.out, hT6, HF1⟩
                      case measure => simp [intOf]; omega
                    exact AllReadyH.nil
                  exact AllReadyH.nil
                exact AllReadyH.nil
              refine AllReadyH.cons rfl (fun K hK => ?_) ?_
              · skip
                go_simp
                refine hK.out _ _ ?_ (fun hH2 => ?_)
                · exact ⟨hH.1.below (bel1 _ _), hH.2.below (bel1 _ _)⟩
                clear hK K hH
                have hH := hH2; clear hH2
                (try simp only [List.getElem_toArray, List.getElem_cons_succ, List.getElem_cons_zero, Act.put, List.setIfInBounds_toArray, List.set_cons_zero, List.set_cons_succ])
                refine wpAnyH_ready (rs := [1]) (by kernel_rfl) (by simp) ?_
                refine AllReadyH.cons rfl (fun K hK => ?_) ?_
                · skip
                  go_simp
                  refine hK.out _ _ ?_ (fun hH2 => ?_)
                  · assumption
                  clear hK K hH
                  have hH := hH2; clear hH2
                  (try simp only [List.getElem_toArray, List.getElem_cons_succ, List.getElem_cons_zero, Act.put, List.setIfInBounds_toArray, List.set_cons_zero, List.set_cons_succ])
                  refine wpAnyH_ready (rs := [9]) (by kernel_rfl) (by simp) ?_
                  refine AllReadyH.cons rfl (fun K hK => ?_) ?_
                  · skip
                    refine step_append_lies _ (by rfl) _ _ 24 (by rfl) wo.heap.size 26 i26 _ 7 112 Tryd.underlying24 HI26.out.1 HI26.out.2.1 HI26.out.2.2.1 HI26.out.2.2.2 (by rfl) (by decide) (.slice ka k kc) k ys (by rfl) (own_below (own_below hAL.out.1 hb4) (bel1 _ _)) ⟨w4.heap.size, 0, none⟩ 1 1 vn.cells (by rfl) (by rfl) (World.news_of_block (new_cells w4 _ _)) (by intro u hu; simp [V7.cells] at hu; rcases hu with rfl | rfl | rfl | rfl | rfl | rfl | rfl <;> rfl) (by omega) (by unfold maxLen; omega) (by omega) (by simp; omega) (w4.heap.size + 1) (by simp) ?_
                    intro g5 cap w5 hown5 hgrow hat hlt5
                    have hrow : ∀ r, (Value.slice ka k kc).ownBlock = some r → wo.heap.size ≤ r := fun r hr => (hAL.out.1.lt r hr).1
                    obtain ⟨hT5, hT6⟩ := box_set (off := 6) (u := .slice (some ⟨g5, 0, none⟩) (k + 1) cap) hO.out hlt2 hb4 hgrow (by intro e; have := hrow _ e; omega)
                    have hT5c := cells_of hT5
                    have hT5f := cells_free hT5
                    refine hK.out _ _ ?_ (fun hH2 => ?_)
                    · exact ⟨hH.1.grown hgrow (by intro e; have := hrow _ e; omega), hH.2.grown hgrow (by intro e; have := hrow _ e; omega)⟩
                    clear hK K hH
                    have hH := hH2; clear hH2
                    (try simp only [List.getElem_toArray, List.getElem_cons_succ, List.getElem_cons_zero, Act.put, List.setIfInBounds_toArray, List.set_cons_zero, List.set_cons_succ])
                    refine wpAnyH_take (i := 10) (v := ?_) rfl (by kernel_rfl) (by kernel_rfl) (by kernel_rfl) (fun _ _ _ h => h) (Or.inl ⟨by rfl, ?_⟩) (by assumption) ?_
                    rotate_left; focus (intro w hSw; (try dsimp only at hSw); go_simp; try with_reducible rfl)
                    (try simp only [List.getElem_toArray, List.getElem_cons_succ, List.getElem_cons_zero, Act.put, List.setIfInBounds_toArray, List.set_cons_zero, List.set_cons_succ])
                    refine wpAnyH_ready (rs := [11]) (by kernel_rfl) (by simp) ?_
                    refine AllReadyH.cons rfl (fun K hK => ?_) ?_
                    · skip
                      go_simp
                      refine hK.out _ _ ?_ (fun hH2 => ?_)
                      · exact ⟨hH.1.set (by omega), hH.2.set (by omega)⟩
                      clear hK K hH
                      have hH := hH2; clear hH2
                      (try simp only [List.getElem_toArray, List.getElem_cons_succ, List.getElem_cons_zero, Act.put, List.setIfInBounds_toArray, List.set_cons_zero, List.set_cons_succ])
                      refine wpAnyH_done (by kernel_rfl) ?_ _
                      clear hH
                      have HF1 := Lib.hid (AL.next2 (tB := w.heap.size + 1 + 1) (off := 6) (u := .slice (some ⟨g5, 0, none⟩) (k + 1) cap) hAL.out hLl HLE.out (by omega) (by omega) hb4 hown.out hown5 hgrow hat)
                      have HF2 := Lib.hid (PL.app (off := 6) (u := .slice (some ⟨g5, 0, none⟩) (k + 1) cap) hPL hb4 hgrow hrow (by omega) (by omega))
                      replace hT6 := Lib.hid hT6
                      clear hT5 hT5c hT5f hT4 c0 c2 f2 hown5 hgrow hb40 hb4
                      go_wp2
                      go_roundw
                      case rel => exact ⟨k + 1, _, _, _, by omega, by go_num, HF2.out, hT6, HF1⟩
                      case measure => simp [intOf]; omega
                    exact AllReadyH.nil
                  exact AllReadyH.nil
                exact AllReadyH.nil
              exact AllReadyH.nil
            exact AllReadyH.nil
          · have hge : (vkl : Int) ≤ (k : Int) := by omega
            have hnl : ¬ ((k : Int) < (vkl : Int)) := by omega
            have hkq : vkl = k := by omega
            subst hkq
            have HKID := Lib.hid (AL.kids' hAL.out HK.out.1 HK.out.2.1)
            have hres := (hPL.but _ (by omega) (by omega)).trans ((HPO.out.but _ (by omega) (by omega)).trans hC.res)
            have hE0 : EAt wr (w.heap.size + 1) 0 ⟨0, 0, ⟨#[]⟩, none, 0, 0, none, 0, 0, false, none, 0, 0⟩ := by
              have cZ := cells_of hres
              exact ⟨cZ 0, cZ 1, cZ 2, cZ 3, cZ 4, cZ 5, cZ 6⟩
            have HE9 := Lib.hid (st7_eat (v := ⟨vop, vnum, vtx, pa, vpl, pc, qa, vql, qc, vopn, ka, vkl, kc⟩) hE0)
            have HFIN := Lib.hid (plain_fin (qc := qc) (kc := kc) HXP.out hC HPO.out hPL hwc HPAIR.out HKID.out)
            have HBF := Lib.hid (hPL.bel.trans (st7_below (h := w.heap.size + 1) (o := 0) (v := ⟨vop, vnum, vtx, pa, vpl, pc, qa, vql, qc, vopn, ka, vkl, kc⟩) (Nat.le_succ _)))
            have cZ := cells_of hres
            have fZ := cells_free hres
            clear hE0 hres hAL
            go_wp2
            obtain ⟨e0, e1, e2, e3, e4, e5, e6⟩ := HE9.out
            simp only [st7, Nat.zero_add] at e0 e1 e2 e3 e4 e5 e6
            refine bodyPost_ret (v := .agg #[.int .i64 vop, .int .i64 vnum, .string vtx, .slice pa vpl pc, .slice qa vql qc, .bool vopn, .slice ka vkl kc]) (by simp [results, Tryd.results14, go_sem, e0, e1, e2, e3, e4, e5, e6]) rfl ?_
            exact ⟨⟨vop, vnum, vtx, pa, vpl, pc, qa, vql, qc, vopn, ka, vkl, kc⟩, rfl, HBF.out, HFIN.out⟩
theorem plain_ok : ∀ n, PlainOk n
  | 0 => fun _ _ _ x => x.elim
  | n + 1 => plain_succ n (Lib.hid (plain_ok n))
end Go.Proofs.YtigdibglkejciaaDoor.Ex
