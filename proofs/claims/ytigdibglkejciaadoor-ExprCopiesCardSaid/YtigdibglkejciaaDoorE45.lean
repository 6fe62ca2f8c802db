/-
  Copy: what the three clones leave.
-/
import Derived.Test.YtigdibglkejciaaDoorE46
import Derived.Deep.DeepCutAuto
namespace Go.Proofs.YtigdibglkejciaaDoor.Ex
open Go.RowKit Go
set_option linter.unusedSimpArgs false

/-- A row of the call's own. -/
def RowAt (lo : Nat) (T : TypeId) (n : Nat) (a : Option Addr) (news : List Value) (W : World) : Prop := 0 < n → ∃ g, a = some ⟨g, 0, none⟩ ∧ lo ≤ g ∧ blk W T g ∧ ∀ j u, news[j]? = some u → W.cell? ⟨g, j, none⟩ = some u
theorem RowAt.stays {lo lo' : Nat} {T : TypeId} {n : Nat} {a : Option Addr} {news : List Value} {W W' : World} (h : RowAt lo T n a news W) (hs : Stays lo W W') (hl : lo' ≤ lo) : RowAt lo' T n a news W' := fun hp => by
  obtain ⟨g, e, hg, hb, hc⟩ := h hp
  obtain ⟨h1, h2⟩ := hs T g hg hb
  exact ⟨g, e, by omega, h2, fun j u hj => (h1 j).trans (hc j u hj)⟩
theorem set_at {W : World} {b o : Nat} {c : Array Value} {T : TypeId} {u : Value} (h : W.heap[b]? = some (.cells c T (0, 0))) : (W.setCell ⟨b, o, none⟩ u).heap[b]? = some (.cells (c.setIfInBounds o u) T (0, 0)) := by
  simp [World.setCell, Array.getElem?_modify, h]
theorem set_far {W : World} {b g o : Nat} {u : Value} (h : g ≠ b) : (W.setCell ⟨b, o, none⟩ u).heap[g]? = W.heap[g]? := Below.heap_setCell _ _ _ _ h
/-- When the clones are stored. -/
structure C1 (w : World) (lo : Nat) (vop vnum : Int) (vtx : ByteArray) (vpl vql : Nat) (vopn : Bool) (vkl : Nat) (ps : List ByteArray) (qs : List (ByteArray × V7)) (ks : List V7) (pa : Option Addr) (pc : Nat) (qa : Option Addr) (qc : Nat) (ka : Option Addr) (kc : Nat) (W : World) : Prop where
  bel : Below w.heap.size w W
  box : W.heap[w.heap.size]? = some (.cells #[.int .i64 vop, .int .i64 vnum, .string vtx, .slice pa vpl pc, .slice qa vql qc, .bool vopn, .slice ka vkl kc] 26 (0, 0))
  res : W.heap[w.heap.size + 1]? = some (.cells #[.int .i64 0, .int .i64 0, .string ⟨#[]⟩, .slice none 0 0, .slice none 0 0, .bool false, .slice none 0 0] 26 (0, 0))
  rp : RowAt lo 9 vpl pa (ps.map Value.string) W
  rq : RowAt lo 46 vql qa (pcells qs) W
  rk : RowAt lo 26 vkl ka (vcells ks) W
set_option maxHeartbeats 4000000 in
theorem c1_of {w w1 u30 u31 u32 : World} {lo : Nat} {vop vnum : Int} {vtx : ByteArray} {vpa vqa vka : Option Addr} {vpc vqc vkc : Nat} {vpl vql : Nat} {vopn : Bool} {vkl : Nat} {ps : List ByteArray} {qs : List (ByteArray × V7)} {ks : List V7} {pa : Option Addr} {pc : Nat} {qa : Option Addr} {qc : Nat} {ka : Option Addr} {kc : Nat} (hb : Below w.heap.size w w1) (hlo : w.heap.size + 2 ≤ lo) (hl1 : lo ≤ w1.heap.size) (h0 : w1.heap[w.heap.size]? = some (.cells #[.int .i64 vop, .int .i64 vnum, .string vtx, .slice vpa vpl vpc, .slice vqa vql vqc, .bool vopn, .slice vka vkl vkc] 26 (0, 0))) (h1 : w1.heap[w.heap.size + 1]? = some (.cells #[.int .i64 0, .int .i64 0, .string ⟨#[]⟩, .slice none 0 0, .slice none 0 0, .bool false, .slice none 0 0] 26 (0, 0)))
    (b30 : Below w1.heap.size w1 u30) (r30 : RowAt w1.heap.size 9 vpl pa (ps.map Value.string) u30) (b31 : Below u30.heap.size u30 u31) (r31 : RowAt u30.heap.size 46 vql qa (pcells qs) u31) (b32 : Below u31.heap.size u31 u32) (r32 : RowAt u31.heap.size 26 vkl ka (vcells ks) u32) :
    C1 w lo vop vnum vtx vpl vql vopn vkl ps qs ks pa pc qa qc ka kc (((u32.setCell ⟨w.heap.size, 3, none⟩ (.slice pa vpl pc)).setCell ⟨w.heap.size, 4, none⟩ (.slice qa vql qc)).setCell ⟨w.heap.size, 6, none⟩ (.slice ka vkl kc)) := by
  have hs1 := hb.size
  have hs30 := b30.size
  have hs31 := b31.size
  have ball : Below w1.heap.size w1 u32 := b30.trans ((b31.trans (b32.mono hs31)).mono hs30)
  have st : Stays lo u32 (((u32.setCell ⟨w.heap.size, 3, none⟩ (.slice pa vpl pc)).setCell ⟨w.heap.size, 4, none⟩ (.slice qa vql qc)).setCell ⟨w.heap.size, 6, none⟩ (.slice ka vkl kc)) := ((Stays.set (by omega)).trans (Stays.set (by omega))).trans (Stays.set (by omega))
  have e0 := (ball.block _ (lt_of_block h0)).trans h0
  have e1 := (ball.block _ (lt_of_block h1)).trans h1
  refine ⟨?_, ?_, ?_, ?_, ?_, ?_⟩
  · exact (((hb.trans (ball.mono hs1)).setCell (p := ⟨w.heap.size, 3, none⟩) (Nat.le_refl _) _).setCell (p := ⟨w.heap.size, 4, none⟩) (Nat.le_refl _) _).setCell (p := ⟨w.heap.size, 6, none⟩) (Nat.le_refl _) _
  · have q := set_at (o := 6) (u := .slice ka vkl kc) (set_at (o := 4) (u := .slice qa vql qc) (set_at (o := 3) (u := .slice pa vpl pc) e0))
    exact q
  · rw [set_far (by omega), set_far (by omega), set_far (by omega)]
    exact e1
  · exact ((r30.stays (Stays.below (b31.trans (b32.mono hs31))) hl1).stays st (Nat.le_refl _))
  · exact ((r31.stays (Stays.below b32) (by omega : lo ≤ u30.heap.size)).stays st (Nat.le_refl _))
  · exact ((r32.stays (Stays.below (Below.refl _ _)) (by omega : lo ≤ u31.heap.size)).stays st (Nat.le_refl _))
theorem blk.far {W : World} {T T' : TypeId} {g h q : Nat} (hg : blk W T g) (h1 : 0 < q → blk W T' h) (h0 : q = 0 → W.heap.size ≤ h) (hT : T ≠ T') : g ≠ h := fun e => by
  rcases Nat.eq_zero_or_pos q with hq | hq
  · have := h0 hq; have := hg.lt; omega
  · have := h1 hq
    rw [← e] at this
    exact hT (hg.uniq this)
/-- All copied. -/
theorem copy_fin {n : Nat} {w wc wo wr : World} {B h2 h3 : Nat} {vop vnum : Int} {vtx : ByteArray} {vpl vql vkl : Nat} {vopn : Bool} {x : Ex (n + 1)} {qs : List (ByteArray × V7)} {ks : List V7} {pa qa ka : Option Addr} {pc qc kc : Nat}
    (HXP : vop = x.1.op ∧ vnum = x.1.num ∧ vtx = x.1.text ∧ vopn = x.1.opn ∧ vpl = x.2.1.length ∧ x.2.1.length ≤ maxLen ∧ vql = x.2.2.1.length ∧ x.2.2.1.length ≤ maxLen ∧ vkl = x.2.2.2.length ∧ x.2.2.2.length ≤ maxLen)
    (HC : C1 w (w.heap.size + 2) vop vnum vtx vpl vql vopn vkl x.2.1 qs ks pa pc qa qc ka kc wc) (hwc : w.heap.size + 1 < wc.heap.size) (PO : PL w wc h2 wo) (PR : PL w wo h3 wr) (hh2 : w.heap.size + 2 ≤ h2) (hh3 : w.heap.size + 2 ≤ h3)
    (hn2 : vql = 0 → wc.heap.size ≤ h2) (hn3 : vkl = 0 → wo.heap.size ≤ h3) (hq : 0 < vql → qa = some ⟨h2, 0, none⟩ ∧ blk wc 46 h2) (hqi : 0 < vql → blk wo 46 h2 ∧ InP wo wc.heap.size B n h2 vql x.2.2.1)
    (hk : 0 < vkl → ka = some ⟨h3, 0, none⟩ ∧ blk wo 26 h3) (hl3 : 0 < vkl → h3 < wc.heap.size) (hki : 0 < vkl → blk wr 26 h3 ∧ InK wr wo.heap.size B n h3 vkl x.2.2.2) :
    ExOwn (st7 wr (w.heap.size + 1) 0 ⟨vop, vnum, vtx, pa, vpl, pc, qa, vql, qc, vopn, ka, vkl, kc⟩) w.heap.size (n + 1) ⟨vop, vnum, vtx, pa, vpl, pc, qa, vql, qc, vopn, ka, vkl, kc⟩ x := by
  obtain ⟨hop, hnum, htx, hopn, hp1, hp2, hq1, hq2, hk1, hk2⟩ := HXP
  have hz1 := PO.size
  have hz2 := PR.size
  refine ⟨hop, hnum, htx, hopn, ⟨hp1, hp2, fun hp => ?_⟩, ⟨hq1, hq2, fun hp => ?_⟩, ⟨hk1, hk2, fun hp => ?_⟩⟩
  · obtain ⟨g, e, hg, hb, hc⟩ := HC.rp (by omega)
    obtain ⟨s1, s2⟩ := PO.same hb (hb.far (fun h => (hq h).2) hn2 (by decide))
    obtain ⟨t1, t2⟩ := PR.same s2 (s2.far (fun h => (hk h).2) hn3 (by decide))
    refine ⟨g, 0, e, ⟨rfl, by omega, st7_blk t2⟩, fun i hi => ?_⟩
    rw [st7_far (Or.inl (by omega)), Nat.zero_add, t1, s1]
    exact hc i _ (by rw [List.getElem?_map, List.getElem?_eq_getElem hi]; rfl)
  · obtain ⟨e, _⟩ := hq (by omega)
    obtain ⟨hb, hI⟩ := hqi (by omega)
    obtain ⟨t1, t2⟩ := PR.same hb (hb.far (fun h => (hk h).2) hn3 (by decide))
    refine ⟨h2, 0, e, ⟨rfl, by omega, st7_blk t2⟩, fun i hi => ?_⟩
    obtain ⟨c, v, hE, ho, _⟩ := hI i hi
    rw [Nat.zero_add]
    refine ⟨v, by rw [st7_far (Or.inl (by omega)), t1]; exact c, hE.kept (fun o => by rw [st7_far (Or.inl (by omega)), t1]), ?_⟩
    have st : Stays wc.heap.size wo wr := fun T g hg hbk => PR.same hbk (fun e => by
      rcases Nat.eq_zero_or_pos vkl with h0 | h0
      · have := hn3 h0; have := hbk.lt; omega
      · have := hl3 h0; omega)
    exact ((ho (by omega)).stays st (Nat.le_refl _)).stays (Stays.st7 (by omega)) (by omega)
  · obtain ⟨e, _⟩ := hk (by omega)
    obtain ⟨hb, hI⟩ := hki (by omega)
    refine ⟨h3, 0, e, ⟨rfl, by omega, st7_blk hb⟩, fun i hi => ?_⟩
    obtain ⟨v, hE, ho, _⟩ := hI i hi
    rw [Nat.zero_add]
    exact ⟨v, hE.kept (fun o => by rw [st7_far (Or.inl (by omega))]), (ho (by omega)).stays (Stays.st7 (by omega)) (by omega)⟩
set_option maxRecDepth 100000 in
set_option maxHeartbeats 16000000 in
theorem copy_succ (n : Nat) (HD : Hid (CopyOk n)) : CopyOk (n + 1) := by
  intro w B v x d hB hsm hx
  obtain ⟨vop, vnum, vtx, vpa, vpl, vpc, vqa, vql, vqc, vopn, vka, vkl, vkc⟩ := v
  obtain ⟨hop, hnum, htx, hopn, hps, hqs, hks⟩ := hx
  simp only at hop hnum htx hopn hps hqs hks ⊢
  obtain ⟨ks, hkl, hkc, hkI⟩ := kids_list hks
  obtain ⟨qs, hql, hqc, hqI⟩ := pairs_list hqs
  have hpl200 : vpl ≤ 200 := by have := hps.1; have := hsm.2.2.1; omega
  have hql200 : vql ≤ 200 := by have := hqs.1; have := hsm.2.2.2.1; omega
  have hkl200 : vkl ≤ 200 := by have := hks.1; have := hsm.2.2.2.2.1; omega
  have hb1 : Below w.heap.size w ((w.alloc (.cells #[.int .i64 vop, .int .i64 vnum, .string vtx, .slice vpa vpl vpc, .slice vqa vql vqc, .bool vopn, .slice vka vkl vkc] 26)).alloc (.cells #[.int .i64 0, .int .i64 0, .string ⟨#[]⟩, .slice none 0 0, .slice none 0 0, .bool false, .slice none 0 0] 26)) := (bel1 _ _).trans ((bel1 _ _).mono (by simp))
  have n0 := Below.heap_alloc (w.alloc (.cells #[.int .i64 vop, .int .i64 vnum, .string vtx, .slice vpa vpl vpc, .slice vqa vql vqc, .bool vopn, .slice vka vkl vkc] 26)) (.cells #[.int .i64 0, .int .i64 0, .string ⟨#[]⟩, .slice none 0 0, .slice none 0 0, .bool false, .slice none 0 0] 26) w.heap.size (by simp) |>.trans (new_cells w #[.int .i64 vop, .int .i64 vnum, .string vtx, .slice vpa vpl vpc, .slice vqa vql vqc, .bool vopn, .slice vka vkl vkc] 26)
  have n1 := new_cells (w.alloc (.cells #[.int .i64 vop, .int .i64 vnum, .string vtx, .slice vpa vpl vpc, .slice vqa vql vqc, .bool vopn, .slice vka vkl vkc] 26)) #[.int .i64 0, .int .i64 0, .string ⟨#[]⟩, .slice none 0 0, .slice none 0 0, .bool false, .slice none 0 0] 26
  rw [World.size_alloc] at n1
  have hz : ((w.alloc (.cells #[.int .i64 vop, .int .i64 vnum, .string vtx, .slice vpa vpl vpc, .slice vqa vql vqc, .bool vopn, .slice vka vkl vkc] 26)).alloc (.cells #[.int .i64 0, .int .i64 0, .string ⟨#[]⟩, .slice none 0 0, .slice none 0 0, .bool false, .slice none 0 0] 26)).heap.size = w.heap.size + 2 := by simp
  have P30 : Hid (∀ W, Below ((w.alloc (.cells #[.int .i64 vop, .int .i64 vnum, .string vtx, .slice vpa vpl vpc, .slice vqa vql vqc, .bool vopn, .slice vka vkl vkc] 26)).alloc (.cells #[.int .i64 0, .int .i64 0, .string ⟨#[]⟩, .slice none 0 0, .slice none 0 0, .bool false, .slice none 0 0] 26)).heap.size ((w.alloc (.cells #[.int .i64 vop, .int .i64 vnum, .string vtx, .slice vpa vpl vpc, .slice vqa vql vqc, .bool vopn, .slice vka vkl vkc] 26)).alloc (.cells #[.int .i64 0, .int .i64 0, .string ⟨#[]⟩, .slice none 0 0, .slice none 0 0, .bool false, .slice none 0 0] 26)) W → Calls Tryd.prog 30 #[.slice vpa vpl vpc] W (ClonePost 9 vpl (x.2.1.map Value.string) W)) := Lib.hid (fun W hW => by
    refine cloneS_any vpa vpl vpc _ W (by rw [List.length_map, Nat.mul_one]; exact hps.1.symm) hpl200 (fun hp => ?_) (by intro u hu; obtain ⟨s, _, rfl⟩ := List.mem_map.1 hu; rfl)
    obtain ⟨g, off, e, hg, hc⟩ := hps.2.2 (by have := hps.1; omega)
    refine ⟨g, off, e, fun j u hj => ?_⟩
    have hbw : Below w.heap.size w W := hb1.trans (hW.mono hb1.size)
    rw [List.getElem?_map] at hj
    obtain ⟨s, hs, rfl⟩ := Option.map_eq_some_iff.1 hj
    obtain ⟨hlt, rfl⟩ := List.getElem?_eq_some_iff.1 hs
    exact (hbw.cell (p := ⟨g, _, none⟩) (by show g < _; omega)).trans (hc j hlt))
  have P31 : Hid (∀ W, Below ((w.alloc (.cells #[.int .i64 vop, .int .i64 vnum, .string vtx, .slice vpa vpl vpc, .slice vqa vql vqc, .bool vopn, .slice vka vkl vkc] 26)).alloc (.cells #[.int .i64 0, .int .i64 0, .string ⟨#[]⟩, .slice none 0 0, .slice none 0 0, .bool false, .slice none 0 0] 26)).heap.size ((w.alloc (.cells #[.int .i64 vop, .int .i64 vnum, .string vtx, .slice vpa vpl vpc, .slice vqa vql vqc, .bool vopn, .slice vka vkl vkc] 26)).alloc (.cells #[.int .i64 0, .int .i64 0, .string ⟨#[]⟩, .slice none 0 0, .slice none 0 0, .bool false, .slice none 0 0] 26)) W → Calls Tryd.prog 31 #[.slice vqa vql vqc] W (ClonePost 46 vql (pcells qs) W)) := Lib.hid (fun W hW => by
    have hbw : Below w.heap.size w W := hb1.trans (hW.mono hb1.size)
    refine cloneP_any vqa vql vqc _ W (by rw [pcells_len, hql, hqs.1]) hql200 (fun hp => ?_) (pcells_one qs)
    obtain ⟨g', off', e', hg, _⟩ := hqs.2.2 (by have := hqs.1; omega)
    obtain ⟨g, off, e, hc⟩ := hqc hp
    rw [e'] at e; cases e
    exact ⟨g', off', e', fun j u hj => (hbw.cell (p := ⟨g', _, none⟩) (by show g' < _; omega)).trans (hc j u hj)⟩)
  have P32 : Hid (∀ W, Below ((w.alloc (.cells #[.int .i64 vop, .int .i64 vnum, .string vtx, .slice vpa vpl vpc, .slice vqa vql vqc, .bool vopn, .slice vka vkl vkc] 26)).alloc (.cells #[.int .i64 0, .int .i64 0, .string ⟨#[]⟩, .slice none 0 0, .slice none 0 0, .bool false, .slice none 0 0] 26)).heap.size ((w.alloc (.cells #[.int .i64 vop, .int .i64 vnum, .string vtx, .slice vpa vpl vpc, .slice vqa vql vqc, .bool vopn, .slice vka vkl vkc] 26)).alloc (.cells #[.int .i64 0, .int .i64 0, .string ⟨#[]⟩, .slice none 0 0, .slice none 0 0, .bool false, .slice none 0 0] 26)) W → Calls Tryd.prog 32 #[.slice vka vkl vkc] W (ClonePost 26 vkl (vcells ks) W)) := Lib.hid (fun W hW => by
    have hbw : Below w.heap.size w W := hb1.trans (hW.mono hb1.size)
    refine cloneK_any vka vkl vkc _ W (by rw [vcells_len, hkl, hks.1]) hkl200 (fun hp => ?_) (vcells_one ks)
    obtain ⟨g', off', e', hg, _⟩ := hks.2.2 (by have := hks.1; omega)
    obtain ⟨g, off, e, hc⟩ := hkc hp
    rw [e'] at e; cases e
    exact ⟨g', off', e', fun j u hj => (hbw.cell (p := ⟨g', _, none⟩) (by show g' < _; omega)).trans (hc j u hj)⟩)
  have HQI := Lib.hid hqI
  have HKI := Lib.hid hkI
  have HXP := Lib.hid (And.intro hop (And.intro hnum (And.intro htx (And.intro hopn (And.intro hps.1 (And.intro hps.2.1 (And.intro hqs.1 (And.intro hqs.2.1 (And.intro hks.1 hks.2.1)))))))))
  have HLEN := Lib.hid (And.intro hql hkl)
  have HSM := Lib.hid hsm
  have H0 := Lib.hid n0
  have H1 := Lib.hid n1
  have HB1 := Lib.hid hb1
  have HZ := Lib.hid hz
  clear hop hnum htx hopn hps hqs hks hkc hqc hkI hqI hql hkl hsm n0 n1 hb1 hz
  go_enter Tryd.func15, Tryd.ntmps15
  go_upto_region 1 with fail
  go_cut [] (fun wx => ∃ pa pc qa qc ka kc, C1 w (w.heap.size + 2) vop vnum vtx vpl vql vopn vkl x.2.1 qs ks pa pc qa qc ka kc wx)
  case first =>
    have hb1 := HB1.out
    have hz := HZ.out
    have hl0 : w.heap.size < ((w.alloc (.cells #[.int .i64 vop, .int .i64 vnum, .string vtx, .slice vpa vpl vpc, .slice vqa vql vqc, .bool vopn, .slice vka vkl vkc] 26)).alloc (.cells #[.int .i64 0, .int .i64 0, .string ⟨#[]⟩, .slice none 0 0, .slice none 0 0, .bool false, .slice none 0 0] 26)).heap.size := by omega
    generalize (w.alloc (.cells #[.int .i64 vop, .int .i64 vnum, .string vtx, .slice vpa vpl vpc, .slice vqa vql vqc, .bool vopn, .slice vka vkl vkc] 26)).alloc (.cells #[.int .i64 0, .int .i64 0, .string ⟨#[]⟩, .slice none 0 0, .slice none 0 0, .bool false, .slice none 0 0] 26) = w1 at P30 P31 P32 H0 H1 hb1 hz hl0 ⊢
    have c1 := cells_of H0.out
    refine wp_region_held_drew (S := (fun _ => True)) (by kernel_rfl) ?_ (fun hH => ?_)
    · trivial
    refine wpAnyH_take (i := 0) (v := ?_) rfl (by kernel_rfl) (by kernel_rfl) (by kernel_rfl) (fun _ _ _ h => h) (Or.inl ⟨by rfl, ?_⟩) (by assumption) ?_
    rotate_left; focus (intro w hSw; (try dsimp only at hSw); go_simp; try with_reducible rfl)
    (try simp only [List.getElem_toArray, List.getElem_cons_succ, List.getElem_cons_zero, Act.put, List.setIfInBounds_toArray, List.set_cons_zero, List.set_cons_succ])
    refine wpAnyH_take (i := 3) (v := ?_) rfl (by kernel_rfl) (by kernel_rfl) (by kernel_rfl) (fun _ _ _ h => h) (Or.inl ⟨by rfl, ?_⟩) (by assumption) ?_
    rotate_left; focus (intro w hSw; (try dsimp only at hSw); go_simp; try with_reducible rfl)
    (try simp only [List.getElem_toArray, List.getElem_cons_succ, List.getElem_cons_zero, Act.put, List.setIfInBounds_toArray, List.set_cons_zero, List.set_cons_succ])
    refine wpAnyH_take (i := 6) (v := ?_) rfl (by kernel_rfl) (by kernel_rfl) (by kernel_rfl) (fun _ _ _ h => h) (Or.inl ⟨by rfl, ?_⟩) (by assumption) ?_
    rotate_left; focus (intro w hSw; (try dsimp only at hSw); go_simp; try with_reducible rfl)
    (try simp only [List.getElem_toArray, List.getElem_cons_succ, List.getElem_cons_zero, Act.put, List.setIfInBounds_toArray, List.set_cons_zero, List.set_cons_succ])
    refine wpAnyH_ready (rs := [1, 4, 7]) (by kernel_rfl) (by simp) ?_
    refine AllReadyH.cons rfl (fun K hK => ?_) ?_
    · skip
      go_simp
      refine hK.out _ _ ?_ (fun hH2 => ?_)
      · trivial
      clear hK K hH
      have hH := hH2; clear hH2
      (try simp only [List.getElem_toArray, List.getElem_cons_succ, List.getElem_cons_zero, Act.put, List.setIfInBounds_toArray, List.set_cons_zero, List.set_cons_succ])
      refine wpAnyH_ready (rs := [2, 4, 7]) (by kernel_rfl) (by simp) ?_
      refine AllReadyH.cons rfl (fun K hK => ?_) ?_
      · skip
        go_simp
        go_at_call 30
        (with_reducible refine (P30.out _ (by exact Below.drew (Below.refl _ _))).mono ?_)
        rintro e u30 ⟨pa, pc, rfl, b30, r30⟩
        replace b30 : Below w1.heap.size w1 u30 := (Below.refl _ _).drew.trans b30
        have cA := fun o => (b30.cell (p := ⟨w.heap.size, o, none⟩) (by show w.heap.size < _; exact hl0)).trans (c1 o)
        refine hK.out _ _ ?_ (fun hH2 => ?_)
        · trivial
        clear hK K hH
        have hH := hH2; clear hH2
        (try simp only [List.getElem_toArray, List.getElem_cons_succ, List.getElem_cons_zero, Act.put, List.setIfInBounds_toArray, List.set_cons_zero, List.set_cons_succ])
        refine wpAnyH_ready (rs := [4, 7]) (by kernel_rfl) (by simp) ?_
        refine AllReadyH.cons rfl (fun K hK => ?_) ?_
        · skip
          go_simp
          refine hK.out _ _ ?_ (fun hH2 => ?_)
          · trivial
          clear hK K hH
          have hH := hH2; clear hH2
          (try simp only [List.getElem_toArray, List.getElem_cons_succ, List.getElem_cons_zero, Act.put, List.setIfInBounds_toArray, List.set_cons_zero, List.set_cons_succ])
          refine wpAnyH_ready (rs := [5, 7]) (by kernel_rfl) (by simp) ?_
          refine AllReadyH.cons rfl (fun K hK => ?_) ?_
          · skip
            go_simp
            go_at_call 31
            (with_reducible refine (P31.out _ (by exact b30)).mono ?_)
            rintro e u31 ⟨qa, qc, rfl, b31, r31⟩
            have cA2 := fun o => (b31.cell (p := ⟨w.heap.size, o, none⟩) (by have := b30.size; show w.heap.size < _; exact Nat.lt_of_lt_of_le hl0 this)).trans (cA o)
            refine hK.out _ _ ?_ (fun hH2 => ?_)
            · trivial
            clear hK K hH
            have hH := hH2; clear hH2
            (try simp only [List.getElem_toArray, List.getElem_cons_succ, List.getElem_cons_zero, Act.put, List.setIfInBounds_toArray, List.set_cons_zero, List.set_cons_succ])
            refine wpAnyH_ready (rs := [7]) (by kernel_rfl) (by simp) ?_
            refine AllReadyH.cons rfl (fun K hK => ?_) ?_
            · skip
              go_simp
              refine hK.out _ _ ?_ (fun hH2 => ?_)
              · trivial
              clear hK K hH
              have hH := hH2; clear hH2
              (try simp only [List.getElem_toArray, List.getElem_cons_succ, List.getElem_cons_zero, Act.put, List.setIfInBounds_toArray, List.set_cons_zero, List.set_cons_succ])
              refine wpAnyH_take (i := 9) (v := ?_) rfl (by kernel_rfl) (by kernel_rfl) (by kernel_rfl) (fun _ _ _ h => h) (Or.inl ⟨by rfl, ?_⟩) (by assumption) ?_
              rotate_left; focus (intro w hSw; (try dsimp only at hSw); go_simp; try with_reducible rfl)
              (try simp only [List.getElem_toArray, List.getElem_cons_succ, List.getElem_cons_zero, Act.put, List.setIfInBounds_toArray, List.set_cons_zero, List.set_cons_succ])
              refine wpAnyH_ready (rs := [8]) (by kernel_rfl) (by simp) ?_
              refine AllReadyH.cons rfl (fun K hK => ?_) ?_
              · skip
                go_simp
                go_at_call 32
                (with_reducible refine (P32.out _ (by exact Below.trans b30 (b31.mono b30.size))).mono ?_)
                rintro e u32 ⟨ka, kc, rfl, b32, r32⟩
                have hb32 := Below.trans b30 ((b31.trans (b32.mono b31.size)).mono b30.size)
                have y32 := (hb32.block _ hl0).trans H0.out
                have cB := cells_of y32
                have fB := cells_free y32
                have cB4 : ∀ u, (u32.setCell ⟨w.heap.size, 3, none⟩ u).cell? ⟨w.heap.size, 4, none⟩ = some (.slice vqa vql vqc) := fun u => (cell_set_ne _ _ _ _ _ _ (Or.inr (by omega))).trans (cB 4)
                have cB6 : ∀ u u', ((u32.setCell ⟨w.heap.size, 3, none⟩ u).setCell ⟨w.heap.size, 4, none⟩ u').cell? ⟨w.heap.size, 6, none⟩ = some (.slice vka vkl vkc) := fun u u' => (cell_set_ne _ _ _ _ _ _ (Or.inr (by omega))).trans ((cell_set_ne _ _ _ _ _ _ (Or.inr (by omega))).trans (cB 6))
                refine hK.out _ _ ?_ (fun hH2 => ?_)
                · trivial
                clear hK K hH
                have hH := hH2; clear hH2
                (try simp only [List.getElem_toArray, List.getElem_cons_succ, List.getElem_cons_zero, Act.put, List.setIfInBounds_toArray, List.set_cons_zero, List.set_cons_succ])
                refine wpAnyH_ready (rs := [10]) (by kernel_rfl) (by simp) ?_
                refine AllReadyH.cons rfl (fun K hK => ?_) ?_
                · skip
                  go_simp
                  refine hK.out _ _ ?_ (fun hH2 => ?_)
                  · trivial
                  clear hK K hH
                  have hH := hH2; clear hH2
                  (try simp only [List.getElem_toArray, List.getElem_cons_succ, List.getElem_cons_zero, Act.put, List.setIfInBounds_toArray, List.set_cons_zero, List.set_cons_succ])
                  refine wpAnyH_take (i := 11) (v := ?_) rfl (by kernel_rfl) (by kernel_rfl) (by kernel_rfl) (fun _ _ _ h => h) (Or.inl ⟨by rfl, ?_⟩) (by assumption) ?_
                  rotate_left; focus (intro w hSw; (try dsimp only at hSw); go_simp; try with_reducible rfl)
                  (try simp only [List.getElem_toArray, List.getElem_cons_succ, List.getElem_cons_zero, Act.put, List.setIfInBounds_toArray, List.set_cons_zero, List.set_cons_succ])
                  refine wpAnyH_ready (rs := [12]) (by kernel_rfl) (by simp) ?_
                  refine AllReadyH.cons rfl (fun K hK => ?_) ?_
                  · skip
                    go_simp
                    refine hK.out _ _ ?_ (fun hH2 => ?_)
                    · trivial
                    clear hK K hH
                    have hH := hH2; clear hH2
                    (try simp only [List.getElem_toArray, List.getElem_cons_succ, List.getElem_cons_zero, Act.put, List.setIfInBounds_toArray, List.set_cons_zero, List.set_cons_succ])
                    refine wpAnyH_take (i := 13) (v := ?_) rfl (by kernel_rfl) (by kernel_rfl) (by kernel_rfl) (fun _ _ _ h => h) (Or.inl ⟨by rfl, ?_⟩) (by assumption) ?_
                    rotate_left; focus (intro w hSw; (try dsimp only at hSw); go_simp; try with_reducible rfl)
                    (try simp only [List.getElem_toArray, List.getElem_cons_succ, List.getElem_cons_zero, Act.put, List.setIfInBounds_toArray, List.set_cons_zero, List.set_cons_succ])
                    refine wpAnyH_ready (rs := [14]) (by kernel_rfl) (by simp) ?_
                    refine AllReadyH.cons rfl (fun K hK => ?_) ?_
                    · skip
                      go_simp
                      refine hK.out _ _ ?_ (fun hH2 => ?_)
                      · trivial
                      clear hK K hH
                      have hH := hH2; clear hH2
                      (try simp only [List.getElem_toArray, List.getElem_cons_succ, List.getElem_cons_zero, Act.put, List.setIfInBounds_toArray, List.set_cons_zero, List.set_cons_succ])
                      refine wpAnyH_done (by kernel_rfl) ?_ _
                      clear hH
                      have HF := Lib.hid (c1_of (w := w) (lo := w.heap.size + 2) (vop := vop) (vnum := vnum) (vtx := vtx) (vopn := vopn) (pc := pc) (qc := qc) (kc := kc) hb1 (Nat.le_refl _) (by omega) H0.out H1.out b30 r30 b31 r31 b32 r32)
                      clear b30 r30 b31 r31 b32 r32 cA cA2 hb32 y32 cB fB cB4 cB6
                      go_wp2_with fail
                      go_meet
                      case rel => exact ⟨pa, pc, qa, qc, ka, kc, HF.out⟩
                    exact AllReadyH.nil
                  exact AllReadyH.nil
                exact AllReadyH.nil
              exact AllReadyH.nil
            exact AllReadyH.nil
          refine AllReadyH.cons rfl (fun K hK => ?_) ?_
          · skip
            go_simp
            refine hK.out _ _ ?_ (fun hH2 => ?_)
            · trivial
            clear hK K hH
            have hH := hH2; clear hH2
            (try simp only [List.getElem_toArray, List.getElem_cons_succ, List.getElem_cons_zero, Act.put, List.setIfInBounds_toArray, List.set_cons_zero, List.set_cons_succ])
            refine wpAnyH_take (i := 9) (v := ?_) rfl (by kernel_rfl) (by kernel_rfl) (by kernel_rfl) (fun _ _ _ h => h) (Or.inl ⟨by rfl, ?_⟩) (by assumption) ?_
            rotate_left; focus (intro w hSw; (try dsimp only at hSw); go_simp; try with_reducible rfl)
            (try simp only [List.getElem_toArray, List.getElem_cons_succ, List.getElem_cons_zero, Act.put, List.setIfInBounds_toArray, List.set_cons_zero, List.set_cons_succ])
            refine wpAnyH_ready (rs := [5]) (by kernel_rfl) (by simp) ?_
            refine AllReadyH.cons rfl (fun K hK => ?_) ?_
            · skip
              go_simp
              go_at_call 31
              (with_reducible refine (P31.out _ (by exact b30)).mono ?_)
              rintro e u31 ⟨qa, qc, rfl, b31, r31⟩
              have cA2 := fun o => (b31.cell (p := ⟨w.heap.size, o, none⟩) (by have := b30.size; show w.heap.size < _; exact Nat.lt_of_lt_of_le hl0 this)).trans (cA o)
              refine hK.out _ _ ?_ (fun hH2 => ?_)
              · trivial
              clear hK K hH
              have hH := hH2; clear hH2
              (try simp only [List.getElem_toArray, List.getElem_cons_succ, List.getElem_cons_zero, Act.put, List.setIfInBounds_toArray, List.set_cons_zero, List.set_cons_succ])
              refine wpAnyH_ready (rs := [8]) (by kernel_rfl) (by simp) ?_
              refine AllReadyH.cons rfl (fun K hK => ?_) ?_
              · skip
                go_simp
                go_at_call 32
                (with_reducible refine (P32.out _ (by exact Below.trans b30 (b31.mono b30.size))).mono ?_)
                rintro e u32 ⟨ka, kc, rfl, b32, r32⟩
                have hb32 := Below.trans b30 ((b31.trans (b32.mono b31.size)).mono b30.size)
                have y32 := (hb32.block _ hl0).trans H0.out
                have cB := cells_of y32
                have fB := cells_free y32
                have cB4 : ∀ u, (u32.setCell ⟨w.heap.size, 3, none⟩ u).cell? ⟨w.heap.size, 4, none⟩ = some (.slice vqa vql vqc) := fun u => (cell_set_ne _ _ _ _ _ _ (Or.inr (by omega))).trans (cB 4)
                have cB6 : ∀ u u', ((u32.setCell ⟨w.heap.size, 3, none⟩ u).setCell ⟨w.heap.size, 4, none⟩ u').cell? ⟨w.heap.size, 6, none⟩ = some (.slice vka vkl vkc) := fun u u' => (cell_set_ne _ _ _ _ _ _ (Or.inr (by omega))).trans ((cell_set_ne _ _ _ _ _ _ (Or.inr (by omega))).trans (cB 6))
                refine hK.out _ _ ?_ (fun hH2 => ?_)
                · trivial
                clear hK K hH
                have hH := hH2; clear hH2
                (try simp only [List.getElem_toArray, List.getElem_cons_succ, List.getElem_cons_zero, Act.put, List.setIfInBounds_toArray, List.set_cons_zero, List.set_cons_succ])
                refine wpAnyH_ready (rs := [10]) (by kernel_rfl) (by simp) ?_
                refine AllReadyH.cons rfl (fun K hK => ?_) ?_
                · skip
                  go_simp
                  refine hK.out _ _ ?_ (fun hH2 => ?_)
                  · trivial
                  clear hK K hH
                  have hH := hH2; clear hH2
                  (try simp only [List.getElem_toArray, List.getElem_cons_succ, List.getElem_cons_zero, Act.put, List.setIfInBounds_toArray, List.set_cons_zero, List.set_cons_succ])
                  refine wpAnyH_take (i := 11) (v := ?_) rfl (by kernel_rfl) (by kernel_rfl) (by kernel_rfl) (fun _ _ _ h => h) (Or.inl ⟨by rfl, ?_⟩) (by assumption) ?_
                  rotate_left; focus (intro w hSw; (try dsimp only at hSw); go_simp; try with_reducible rfl)
                  (try simp only [List.getElem_toArray, List.getElem_cons_succ, List.getElem_cons_zero, Act.put, List.setIfInBounds_toArray, List.set_cons_zero, List.set_cons_succ])
                  refine wpAnyH_ready (rs := [12]) (by kernel_rfl) (by simp) ?_
                  refine AllReadyH.cons rfl (fun K hK => ?_) ?_
                  · skip
                    go_simp
                    refine hK.out _ _ ?_ (fun hH2 => ?_)
                    · trivial
                    clear hK K hH
                    have hH := hH2; clear hH2
                    (try simp only [List.getElem_toArray, List.getElem_cons_succ, List.getElem_cons_zero, Act.put, List.setIfInBounds_toArray, List.set_cons_zero, List.set_cons_succ])
                    refine wpAnyH_take (i := 13) (v := ?_) rfl (by kernel_rfl) (by kernel_rfl) (by kernel_rfl) (fun _ _ _ h => h) (Or.inl ⟨by rfl, ?_⟩) (by assumption) ?_
                    rotate_left; focus (intro w hSw; (try dsimp only at hSw); go_simp; try with_reducible rfl)
                    (try simp only [List.getElem_toArray, List.getElem_cons_succ, List.getElem_cons_zero, Act.put, List.setIfInBounds_toArray, List.set_cons_zero, List.set_cons_succ])
                    refine wpAnyH_ready (rs := [14]) (by kernel_rfl) (by simp) ?_
                    refine AllReadyH.cons rfl (fun K hK => ?_) ?_
                    · skip
                      go_simp
                      refine hK.out _ _ ?_ (fun hH2 => ?_)
                      · trivial
                      clear hK K hH
                      have hH := hH2; clear hH2
                      (try simp only [List.getElem_toArray, List.getElem_cons_succ, List.getElem_cons_zero, Act.put, List.setIfInBounds_toArray, List.set_cons_zero, List.set_cons_succ])
                      refine wpAnyH_done (by kernel_rfl) ?_ _
                      clear hH
                      have HF := Lib.hid (c1_of (w := w) (lo := w.heap.size + 2) (vop := vop) (vnum := vnum) (vtx := vtx) (vopn := vopn) (pc := pc) (qc := qc) (kc := kc) hb1 (Nat.le_refl _) (by omega) H0.out H1.out b30 r30 b31 r31 b32 r32)
                      clear b30 r30 b31 r31 b32 r32 cA cA2 hb32 y32 cB fB cB4 cB6
                      go_wp2_with fail
                      go_meet
                      case rel => exact ⟨pa, pc, qa, qc, ka, kc, HF.out⟩
                    exact AllReadyH.nil
                  exact AllReadyH.nil
                exact AllReadyH.nil
              exact AllReadyH.nil
            exact AllReadyH.nil
          exact AllReadyH.nil
        refine AllReadyH.cons rfl (fun K hK => ?_) ?_
        · skip
          go_simp
          refine hK.out _ _ ?_ (fun hH2 => ?_)
          · trivial
          clear hK K hH
          have hH := hH2; clear hH2
          (try simp only [List.getElem_toArray, List.getElem_cons_succ, List.getElem_cons_zero, Act.put, List.setIfInBounds_toArray, List.set_cons_zero, List.set_cons_succ])
          refine wpAnyH_ready (rs := [4]) (by kernel_rfl) (by simp) ?_
          refine AllReadyH.cons rfl (fun K hK => ?_) ?_
          · skip
            go_simp
            refine hK.out _ _ ?_ (fun hH2 => ?_)
            · trivial
            clear hK K hH
            have hH := hH2; clear hH2
            (try simp only [List.getElem_toArray, List.getElem_cons_succ, List.getElem_cons_zero, Act.put, List.setIfInBounds_toArray, List.set_cons_zero, List.set_cons_succ])
            refine wpAnyH_take (i := 9) (v := ?_) rfl (by kernel_rfl) (by kernel_rfl) (by kernel_rfl) (fun _ _ _ h => h) (Or.inl ⟨by rfl, ?_⟩) (by assumption) ?_
            rotate_left; focus (intro w hSw; (try dsimp only at hSw); go_simp; try with_reducible rfl)
            (try simp only [List.getElem_toArray, List.getElem_cons_succ, List.getElem_cons_zero, Act.put, List.setIfInBounds_toArray, List.set_cons_zero, List.set_cons_succ])
            refine wpAnyH_ready (rs := [5]) (by kernel_rfl) (by simp) ?_
            refine AllReadyH.cons rfl (fun K hK => ?_) ?_
            · skip
              go_simp
              go_at_call 31
              (with_reducible refine (P31.out _ (by exact b30)).mono ?_)
              rintro e u31 ⟨qa, qc, rfl, b31, r31⟩
              have cA2 := fun o => (b31.cell (p := ⟨w.heap.size, o, none⟩) (by have := b30.size; show w.heap.size < _; exact Nat.lt_of_lt_of_le hl0 this)).trans (cA o)
              refine hK.out _ _ ?_ (fun hH2 => ?_)
              · trivial
              clear hK K hH
              have hH := hH2; clear hH2
              (try simp only [List.getElem_toArray, List.getElem_cons_succ, List.getElem_cons_zero, Act.put, List.setIfInBounds_toArray, List.set_cons_zero, List.set_cons_succ])
              refine wpAnyH_ready (rs := [8]) (by kernel_rfl) (by simp) ?_
              refine AllReadyH.cons rfl (fun K hK => ?_) ?_
              · skip
                go_simp
                go_at_call 32
                (with_reducible refine (P32.out _ (by exact Below.trans b30 (b31.mono b30.size))).mono ?_)
                rintro e u32 ⟨ka, kc, rfl, b32, r32⟩
                have hb32 := Below.trans b30 ((b31.trans (b32.mono b31.size)).mono b30.size)
                have y32 := (hb32.block _ hl0).trans H0.out
                have cB := cells_of y32
                have fB := cells_free y32
                have cB4 : ∀ u, (u32.setCell ⟨w.heap.size, 3, none⟩ u).cell? ⟨w.heap.size, 4, none⟩ = some (.slice vqa vql vqc) := fun u => (cell_set_ne _ _ _ _ _ _ (Or.inr (by omega))).trans (cB 4)
                have cB6 : ∀ u u', ((u32.setCell ⟨w.heap.size, 3, none⟩ u).setCell ⟨w.heap.size, 4, none⟩ u').cell? ⟨w.heap.size, 6, none⟩ = some (.slice vka vkl vkc) := fun u u' => (cell_set_ne _ _ _ _ _ _ (Or.inr (by omega))).trans ((cell_set_ne _ _ _ _ _ _ (Or.inr (by omega))).trans (cB 6))
                refine hK.out _ _ ?_ (fun hH2 => ?_)
                · trivial
                clear hK K hH
                have hH := hH2; clear hH2
                (try simp only [List.getElem_toArray, List.getElem_cons_succ, List.getElem_cons_zero, Act.put, List.setIfInBounds_toArray, List.set_cons_zero, List.set_cons_succ])
                refine wpAnyH_ready (rs := [10]) (by kernel_rfl) (by simp) ?_
                refine AllReadyH.cons rfl (fun K hK => ?_) ?_
                · skip
                  go_simp
                  refine hK.out _ _ ?_ (fun hH2 => ?_)
                  · trivial
                  clear hK K hH
                  have hH := hH2; clear hH2
                  (try simp only [List.getElem_toArray, List.getElem_cons_succ, List.getElem_cons_zero, Act.put, List.setIfInBounds_toArray, List.set_cons_zero, List.set_cons_succ])
                  refine wpAnyH_take (i := 11) (v := ?_) rfl (by kernel_rfl) (by kernel_rfl) (by kernel_rfl) (fun _ _ _ h => h) (Or.inl ⟨by rfl, ?_⟩) (by assumption) ?_
                  rotate_left; focus (intro w hSw; (try dsimp only at hSw); go_simp; try with_reducible rfl)
                  (try simp only [List.getElem_toArray, List.getElem_cons_succ, List.getElem_cons_zero, Act.put, List.setIfInBounds_toArray, List.set_cons_zero, List.set_cons_succ])
                  refine wpAnyH_ready (rs := [12]) (by kernel_rfl) (by simp) ?_
                  refine AllReadyH.cons rfl (fun K hK => ?_) ?_
                  · skip
                    go_simp
                    refine hK.out _ _ ?_ (fun hH2 => ?_)
                    · trivial
                    clear hK K hH
                    have hH := hH2; clear hH2
                    (try simp only [List.getElem_toArray, List.getElem_cons_succ, List.getElem_cons_zero, Act.put, List.setIfInBounds_toArray, List.set_cons_zero, List.set_cons_succ])
                    refine wpAnyH_take (i := 13) (v := ?_) rfl (by kernel_rfl) (by kernel_rfl) (by kernel_rfl) (fun _ _ _ h => h) (Or.inl ⟨by rfl, ?_⟩) (by assumption) ?_
                    rotate_left; focus (intro w hSw; (try dsimp only at hSw); go_simp; try with_reducible rfl)
                    (try simp only [List.getElem_toArray, List.getElem_cons_succ, List.getElem_cons_zero, Act.put, List.setIfInBounds_toArray, List.set_cons_zero, List.set_cons_succ])
                    refine wpAnyH_ready (rs := [14]) (by kernel_rfl) (by simp) ?_
                    refine AllReadyH.cons rfl (fun K hK => ?_) ?_
                    · skip
                      go_simp
                      refine hK.out _ _ ?_ (fun hH2 => ?_)
                      · trivial
                      clear hK K hH
                      have hH := hH2; clear hH2
                      (try simp only [List.getElem_toArray, List.getElem_cons_succ, List.getElem_cons_zero, Act.put, List.setIfInBounds_toArray, List.set_cons_zero, List.set_cons_succ])
                      refine wpAnyH_done (by kernel_rfl) ?_ _
                      clear hH
                      have HF := Lib.hid (c1_of (w := w) (lo := w.heap.size + 2) (vop := vop) (vnum := vnum) (vtx := vtx) (vopn := vopn) (pc := pc) (qc := qc) (kc := kc) hb1 (Nat.le_refl _) (by omega) H0.out H1.out b30 r30 b31 r31 b32 r32)
                      clear b30 r30 b31 r31 b32 r32 cA cA2 hb32 y32 cB fB cB4 cB6
                      go_wp2_with fail
                      go_meet
                      case rel => exact ⟨pa, pc, qa, qc, ka, kc, HF.out⟩
                    exact AllReadyH.nil
                  exact AllReadyH.nil
                exact AllReadyH.nil
              exact AllReadyH.nil
            exact AllReadyH.nil
          exact AllReadyH.nil
        exact AllReadyH.nil
      refine AllReadyH.cons rfl (fun K hK => ?_) ?_
      · skip
        go_simp
        refine hK.out _ _ ?_ (fun hH2 => ?_)
        · trivial
        clear hK K hH
        have hH := hH2; clear hH2
        (try simp only [List.getElem_toArray, List.getElem_cons_succ, List.getElem_cons_zero, Act.put, List.setIfInBounds_toArray, List.set_cons_zero, List.set_cons_succ])
        refine wpAnyH_ready (rs := [2, 7]) (by kernel_rfl) (by simp) ?_
        refine AllReadyH.cons rfl (fun K hK => ?_) ?_
        · skip
          go_simp
          go_at_call 30
          (with_reducible refine (P30.out _ (by exact Below.drew (Below.refl _ _))).mono ?_)
          rintro e u30 ⟨pa, pc, rfl, b30, r30⟩
          replace b30 : Below w1.heap.size w1 u30 := (Below.refl _ _).drew.trans b30
          have cA := fun o => (b30.cell (p := ⟨w.heap.size, o, none⟩) (by show w.heap.size < _; exact hl0)).trans (c1 o)
          refine hK.out _ _ ?_ (fun hH2 => ?_)
          · trivial
          clear hK K hH
          have hH := hH2; clear hH2
          (try simp only [List.getElem_toArray, List.getElem_cons_succ, List.getElem_cons_zero, Act.put, List.setIfInBounds_toArray, List.set_cons_zero, List.set_cons_succ])
          refine wpAnyH_ready (rs := [5, 7]) (by kernel_rfl) (by simp) ?_
          refine AllReadyH.cons rfl (fun K hK => ?_) ?_
          · skip
            go_simp
            go_at_call 31
            (with_reducible refine (P31.out _ (by exact b30)).mono ?_)
            rintro e u31 ⟨qa, qc, rfl, b31, r31⟩
            have cA2 := fun o => (b31.cell (p := ⟨w.heap.size, o, none⟩) (by have := b30.size; show w.heap.size < _; exact Nat.lt_of_lt_of_le hl0 this)).trans (cA o)
            refine hK.out _ _ ?_ (fun hH2 => ?_)
            · trivial
            clear hK K hH
            have hH := hH2; clear hH2
            (try simp only [List.getElem_toArray, List.getElem_cons_succ, List.getElem_cons_zero, Act.put, List.setIfInBounds_toArray, List.set_cons_zero, List.set_cons_succ])
            refine wpAnyH_ready (rs := [7]) (by kernel_rfl) (by simp) ?_
            refine AllReadyH.cons rfl (fun K hK => ?_) ?_
            · skip
              go_simp
              refine hK.out _ _ ?_ (fun hH2 => ?_)
              · trivial
              clear hK K hH
              have hH := hH2; clear hH2
              (try simp only [List.getElem_toArray, List.getElem_cons_succ, List.getElem_cons_zero, Act.put, List.setIfInBounds_toArray, List.set_cons_zero, List.set_cons_succ])
              refine wpAnyH_take (i := 9) (v := ?_) rfl (by kernel_rfl) (by kernel_rfl) (by kernel_rfl) (fun _ _ _ h => h) (Or.inl ⟨by rfl, ?_⟩) (by assumption) ?_
              rotate_left; focus (intro w hSw; (try dsimp only at hSw); go_simp; try with_reducible rfl)
              (try simp only [List.getElem_toArray, List.getElem_cons_succ, List.getElem_cons_zero, Act.put, List.setIfInBounds_toArray, List.set_cons_zero, List.set_cons_succ])
              refine wpAnyH_ready (rs := [8]) (by kernel_rfl) (by simp) ?_
              refine AllReadyH.cons rfl (fun K hK => ?_) ?_
              · skip
                go_simp
                go_at_call 32
                (with_reducible refine (P32.out _ (by exact Below.trans b30 (b31.mono b30.size))).mono ?_)
                rintro e u32 ⟨ka, kc, rfl, b32, r32⟩
                have hb32 := Below.trans b30 ((b31.trans (b32.mono b31.size)).mono b30.size)
                have y32 := (hb32.block _ hl0).trans H0.out
                have cB := cells_of y32
                have fB := cells_free y32
                have cB4 : ∀ u, (u32.setCell ⟨w.heap.size, 3, none⟩ u).cell? ⟨w.heap.size, 4, none⟩ = some (.slice vqa vql vqc) := fun u => (cell_set_ne _ _ _ _ _ _ (Or.inr (by omega))).trans (cB 4)
                have cB6 : ∀ u u', ((u32.setCell ⟨w.heap.size, 3, none⟩ u).setCell ⟨w.heap.size, 4, none⟩ u').cell? ⟨w.heap.size, 6, none⟩ = some (.slice vka vkl vkc) := fun u u' => (cell_set_ne _ _ _ _ _ _ (Or.inr (by omega))).trans ((cell_set_ne _ _ _ _ _ _ (Or.inr (by omega))).trans (cB 6))
                refine hK.out _ _ ?_ (fun hH2 => ?_)
                · trivial
                clear hK K hH
                have hH := hH2; clear hH2
                (try simp only [List.getElem_toArray, List.getElem_cons_succ, List.getElem_cons_zero, Act.put, List.setIfInBounds_toArray, List.set_cons_zero, List.set_cons_succ])
                refine wpAnyH_ready (rs := [10]) (by kernel_rfl) (by simp) ?_
                refine AllReadyH.cons rfl (fun K hK => ?_) ?_
                · skip
                  go_simp
                  refine hK.out _ _ ?_ (fun hH2 => ?_)
                  · trivial
                  clear hK K hH
                  have hH := hH2; clear hH2
                  (try simp only [List.getElem_toArray, List.getElem_cons_succ, List.getElem_cons_zero, Act.put, List.setIfInBounds_toArray, List.set_cons_zero, List.set_cons_succ])
                  refine wpAnyH_take (i := 11) (v := ?_) rfl (by kernel_rfl) (by kernel_rfl) (by kernel_rfl) (fun _ _ _ h => h) (Or.inl ⟨by rfl, ?_⟩) (by assumption) ?_
                  rotate_left; focus (intro w hSw; (try dsimp only at hSw); go_simp; try with_reducible rfl)
                  (try simp only [List.getElem_toArray, List.getElem_cons_succ, List.getElem_cons_zero, Act.put, List.setIfInBounds_toArray, List.set_cons_zero, List.set_cons_succ])
                  refine wpAnyH_ready (rs := [12]) (by kernel_rfl) (by simp) ?_
                  refine AllReadyH.cons rfl (fun K hK => ?_) ?_
                  · skip
                    go_simp
                    refine hK.out _ _ ?_ (fun hH2 => ?_)
                    · trivial
                    clear hK K hH
                    have hH := hH2; clear hH2
                    (try simp only [List.getElem_toArray, List.getElem_cons_succ, List.getElem_cons_zero, Act.put, List.setIfInBounds_toArray, List.set_cons_zero, List.set_cons_succ])
                    refine wpAnyH_take (i := 13) (v := ?_) rfl (by kernel_rfl) (by kernel_rfl) (by kernel_rfl) (fun _ _ _ h => h) (Or.inl ⟨by rfl, ?_⟩) (by assumption) ?_
                    rotate_left; focus (intro w hSw; (try dsimp only at hSw); go_simp; try with_reducible rfl)
                    (try simp only [List.getElem_toArray, List.getElem_cons_succ, List.getElem_cons_zero, Act.put, List.setIfInBounds_toArray, List.set_cons_zero, List.set_cons_succ])
                    refine wpAnyH_ready (rs := [14]) (by kernel_rfl) (by simp) ?_
                    refine AllReadyH.cons rfl (fun K hK => ?_) ?_
                    · skip
                      go_simp
                      refine hK.out _ _ ?_ (fun hH2 => ?_)
                      · trivial
                      clear hK K hH
                      have hH := hH2; clear hH2
                      (try simp only [List.getElem_toArray, List.getElem_cons_succ, List.getElem_cons_zero, Act.put, List.setIfInBounds_toArray, List.set_cons_zero, List.set_cons_succ])
                      refine wpAnyH_done (by kernel_rfl) ?_ _
                      clear hH
                      have HF := Lib.hid (c1_of (w := w) (lo := w.heap.size + 2) (vop := vop) (vnum := vnum) (vtx := vtx) (vopn := vopn) (pc := pc) (qc := qc) (kc := kc) hb1 (Nat.le_refl _) (by omega) H0.out H1.out b30 r30 b31 r31 b32 r32)
                      clear b30 r30 b31 r31 b32 r32 cA cA2 hb32 y32 cB fB cB4 cB6
                      go_wp2_with fail
                      go_meet
                      case rel => exact ⟨pa, pc, qa, qc, ka, kc, HF.out⟩
                    exact AllReadyH.nil
                  exact AllReadyH.nil
                exact AllReadyH.nil
              exact AllReadyH.nil
            exact AllReadyH.nil
          refine AllReadyH.cons rfl (fun K hK => ?_) ?_
          · skip
            go_simp
            refine hK.out _ _ ?_ (fun hH2 => ?_)
            · trivial
            clear hK K hH
            have hH := hH2; clear hH2
            (try simp only [List.getElem_toArray, List.getElem_cons_succ, List.getElem_cons_zero, Act.put, List.setIfInBounds_toArray, List.set_cons_zero, List.set_cons_succ])
            refine wpAnyH_take (i := 9) (v := ?_) rfl (by kernel_rfl) (by kernel_rfl) (by kernel_rfl) (fun _ _ _ h => h) (Or.inl ⟨by rfl, ?_⟩) (by assumption) ?_
            rotate_left; focus (intro w hSw; (try dsimp only at hSw); go_simp; try with_reducible rfl)
            (try simp only [List.getElem_toArray, List.getElem_cons_succ, List.getElem_cons_zero, Act.put, List.setIfInBounds_toArray, List.set_cons_zero, List.set_cons_succ])
            refine wpAnyH_ready (rs := [5]) (by kernel_rfl) (by simp) ?_
            refine AllReadyH.cons rfl (fun K hK => ?_) ?_
            · skip
              go_simp
              go_at_call 31
              (with_reducible refine (P31.out _ (by exact b30)).mono ?_)
              rintro e u31 ⟨qa, qc, rfl, b31, r31⟩
              have cA2 := fun o => (b31.cell (p := ⟨w.heap.size, o, none⟩) (by have := b30.size; show w.heap.size < _; exact Nat.lt_of_lt_of_le hl0 this)).trans (cA o)
              refine hK.out _ _ ?_ (fun hH2 => ?_)
              · trivial
              clear hK K hH
              have hH := hH2; clear hH2
              (try simp only [List.getElem_toArray, List.getElem_cons_succ, List.getElem_cons_zero, Act.put, List.setIfInBounds_toArray, List.set_cons_zero, List.set_cons_succ])
              refine wpAnyH_ready (rs := [8]) (by kernel_rfl) (by simp) ?_
              refine AllReadyH.cons rfl (fun K hK => ?_) ?_
              · skip
                go_simp
                go_at_call 32
                (with_reducible refine (P32.out _ (by exact Below.trans b30 (b31.mono b30.size))).mono ?_)
                rintro e u32 ⟨ka, kc, rfl, b32, r32⟩
                have hb32 := Below.trans b30 ((b31.trans (b32.mono b31.size)).mono b30.size)
                have y32 := (hb32.block _ hl0).trans H0.out
                have cB := cells_of y32
                have fB := cells_free y32
                have cB4 : ∀ u, (u32.setCell ⟨w.heap.size, 3, none⟩ u).cell? ⟨w.heap.size, 4, none⟩ = some (.slice vqa vql vqc) := fun u => (cell_set_ne _ _ _ _ _ _ (Or.inr (by omega))).trans (cB 4)
                have cB6 : ∀ u u', ((u32.setCell ⟨w.heap.size, 3, none⟩ u).setCell ⟨w.heap.size, 4, none⟩ u').cell? ⟨w.heap.size, 6, none⟩ = some (.slice vka vkl vkc) := fun u u' => (cell_set_ne _ _ _ _ _ _ (Or.inr (by omega))).trans ((cell_set_ne _ _ _ _ _ _ (Or.inr (by omega))).trans (cB 6))
                refine hK.out _ _ ?_ (fun hH2 => ?_)
                · trivial
                clear hK K hH
                have hH := hH2; clear hH2
                (try simp only [List.getElem_toArray, List.getElem_cons_succ, List.getElem_cons_zero, Act.put, List.setIfInBounds_toArray, List.set_cons_zero, List.set_cons_succ])
                refine wpAnyH_ready (rs := [10]) (by kernel_rfl) (by simp) ?_
                refine AllReadyH.cons rfl (fun K hK => ?_) ?_
                · skip
                  go_simp
                  refine hK.out _ _ ?_ (fun hH2 => ?_)
                  · trivial
                  clear hK K hH
                  have hH := hH2; clear hH2
                  (try simp only [List.getElem_toArray, List.getElem_cons_succ, List.getElem_cons_zero, Act.put, List.setIfInBounds_toArray, List.set_cons_zero, List.set_cons_succ])
                  refine wpAnyH_take (i := 11) (v := ?_) rfl (by kernel_rfl) (by kernel_rfl) (by kernel_rfl) (fun _ _ _ h => h) (Or.inl ⟨by rfl, ?_⟩) (by assumption) ?_
                  rotate_left; focus (intro w hSw; (try dsimp only at hSw); go_simp; try with_reducible rfl)
                  (try simp only [List.getElem_toArray, List.getElem_cons_succ, List.getElem_cons_zero, Act.put, List.setIfInBounds_toArray, List.set_cons_zero, List.set_cons_succ])
                  refine wpAnyH_ready (rs := [12]) (by kernel_rfl) (by simp) ?_
                  refine AllReadyH.cons rfl (fun K hK => ?_) ?_
                  · skip
                    go_simp
                    refine hK.out _ _ ?_ (fun hH2 => ?_)
                    · trivial
                    clear hK K hH
                    have hH := hH2; clear hH2
                    (try simp only [List.getElem_toArray, List.getElem_cons_succ, List.getElem_cons_zero, Act.put, List.setIfInBounds_toArray, List.set_cons_zero, List.set_cons_succ])
                    refine wpAnyH_take (i := 13) (v := ?_) rfl (by kernel_rfl) (by kernel_rfl) (by kernel_rfl) (fun _ _ _ h => h) (Or.inl ⟨by rfl, ?_⟩) (by assumption) ?_
                    rotate_left; focus (intro w hSw; (try dsimp only at hSw); go_simp; try with_reducible rfl)
                    (try simp only [List.getElem_toArray, List.getElem_cons_succ, List.getElem_cons_zero, Act.put, List.setIfInBounds_toArray, List.set_cons_zero, List.set_cons_succ])
                    refine wpAnyH_ready (rs := [14]) (by kernel_rfl) (by simp) ?_
                    refine AllReadyH.cons rfl (fun K hK => ?_) ?_
                    · skip
                      go_simp
                      refine hK.out _ _ ?_ (fun hH2 => ?_)
                      · trivial
                      clear hK K hH
                      have hH := hH2; clear hH2
                      (try simp only [List.getElem_toArray, List.getElem_cons_succ, List.getElem_cons_zero, Act.put, List.setIfInBounds_toArray, List.set_cons_zero, List.set_cons_succ])
                      refine wpAnyH_done (by kernel_rfl) ?_ _
                      clear hH
                      have HF := Lib.hid (c1_of (w := w) (lo := w.heap.size + 2) (vop := vop) (vnum := vnum) (vtx := vtx) (vopn := vopn) (pc := pc) (qc := qc) (kc := kc) hb1 (Nat.le_refl _) (by omega) H0.out H1.out b30 r30 b31 r31 b32 r32)
                      clear b30 r30 b31 r31 b32 r32 cA cA2 hb32 y32 cB fB cB4 cB6
                      go_wp2_with fail
                      go_meet
                      case rel => exact ⟨pa, pc, qa, qc, ka, kc, HF.out⟩
                    exact AllReadyH.nil
                  exact AllReadyH.nil
                exact AllReadyH.nil
              exact AllReadyH.nil
            exact AllReadyH.nil
          exact AllReadyH.nil
        refine AllReadyH.cons rfl (fun K hK => ?_) ?_
        · skip
          go_simp
          refine hK.out _ _ ?_ (fun hH2 => ?_)
          · trivial
          clear hK K hH
          have hH := hH2; clear hH2
          (try simp only [List.getElem_toArray, List.getElem_cons_succ, List.getElem_cons_zero, Act.put, List.setIfInBounds_toArray, List.set_cons_zero, List.set_cons_succ])
          refine wpAnyH_ready (rs := [2]) (by kernel_rfl) (by simp) ?_
          refine AllReadyH.cons rfl (fun K hK => ?_) ?_
          · skip
            go_simp
            go_at_call 30
            (with_reducible refine (P30.out _ (by exact Below.drew (Below.refl _ _))).mono ?_)
            rintro e u30 ⟨pa, pc, rfl, b30, r30⟩
            replace b30 : Below w1.heap.size w1 u30 := (Below.refl _ _).drew.trans b30
            have cA := fun o => (b30.cell (p := ⟨w.heap.size, o, none⟩) (by show w.heap.size < _; exact hl0)).trans (c1 o)
            refine hK.out _ _ ?_ (fun hH2 => ?_)
            · trivial
            clear hK K hH
            have hH := hH2; clear hH2
            (try simp only [List.getElem_toArray, List.getElem_cons_succ, List.getElem_cons_zero, Act.put, List.setIfInBounds_toArray, List.set_cons_zero, List.set_cons_succ])
            refine wpAnyH_take (i := 9) (v := ?_) rfl (by kernel_rfl) (by kernel_rfl) (by kernel_rfl) (fun _ _ _ h => h) (Or.inl ⟨by rfl, ?_⟩) (by assumption) ?_
            rotate_left; focus (intro w hSw; (try dsimp only at hSw); go_simp; try with_reducible rfl)
            (try simp only [List.getElem_toArray, List.getElem_cons_succ, List.getElem_cons_zero, Act.put, List.setIfInBounds_toArray, List.set_cons_zero, List.set_cons_succ])
            refine wpAnyH_ready (rs := [5]) (by kernel_rfl) (by simp) ?_
            refine AllReadyH.cons rfl (fun K hK => ?_) ?_
            · skip
              go_simp
              go_at_call 31
              (with_reducible refine (P31.out _ (by exact b30)).mono ?_)
              rintro e u31 ⟨qa, qc, rfl, b31, r31⟩
              have cA2 := fun o => (b31.cell (p := ⟨w.heap.size, o, none⟩) (by have := b30.size; show w.heap.size < _; exact Nat.lt_of_lt_of_le hl0 this)).trans (cA o)
              refine hK.out _ _ ?_ (fun hH2 => ?_)
              · trivial
              clear hK K hH
              have hH := hH2; clear hH2
              (try simp only [List.getElem_toArray, List.getElem_cons_succ, List.getElem_cons_zero, Act.put, List.setIfInBounds_toArray, List.set_cons_zero, List.set_cons_succ])
              refine wpAnyH_ready (rs := [8]) (by kernel_rfl) (by simp) ?_
              refine AllReadyH.cons rfl (fun K hK => ?_) ?_
              · skip
                go_simp
                go_at_call 32
                (with_reducible refine (P32.out _ (by exact Below.trans b30 (b31.mono b30.size))).mono ?_)
                rintro e u32 ⟨ka, kc, rfl, b32, r32⟩
                have hb32 := Below.trans b30 ((b31.trans (b32.mono b31.size)).mono b30.size)
                have y32 := (hb32.block _ hl0).trans H0.out
                have cB := cells_of y32
                have fB := cells_free y32
                have cB4 : ∀ u, (u32.setCell ⟨w.heap.size, 3, none⟩ u).cell? ⟨w.heap.size, 4, none⟩ = some (.slice vqa vql vqc) := fun u => (cell_set_ne _ _ _ _ _ _ (Or.inr (by omega))).trans (cB 4)
                have cB6 : ∀ u u', ((u32.setCell ⟨w.heap.size, 3, none⟩ u).setCell ⟨w.heap.size, 4, none⟩ u').cell? ⟨w.heap.size, 6, none⟩ = some (.slice vka vkl vkc) := fun u u' => (cell_set_ne _ _ _ _ _ _ (Or.inr (by omega))).trans ((cell_set_ne _ _ _ _ _ _ (Or.inr (by omega))).trans (cB 6))
                refine hK.out _ _ ?_ (fun hH2 => ?_)
                · trivial
                clear hK K hH
                have hH := hH2; clear hH2
                (try simp only [List.getElem_toArray, List.getElem_cons_succ, List.getElem_cons_zero, Act.put, List.setIfInBounds_toArray, List.set_cons_zero, List.set_cons_succ])
                refine wpAnyH_ready (rs := [10]) (by kernel_rfl) (by simp) ?_
                refine AllReadyH.cons rfl (fun K hK => ?_) ?_
                · skip
                  go_simp
                  refine hK.out _ _ ?_ (fun hH2 => ?_)
                  · trivial
                  clear hK K hH
                  have hH := hH2; clear hH2
                  (try simp only [List.getElem_toArray, List.getElem_cons_succ, List.getElem_cons_zero, Act.put, List.setIfInBounds_toArray, List.set_cons_zero, List.set_cons_succ])
                  refine wpAnyH_take (i := 11) (v := ?_) rfl (by kernel_rfl) (by kernel_rfl) (by kernel_rfl) (fun _ _ _ h => h) (Or.inl ⟨by rfl, ?_⟩) (by assumption) ?_
                  rotate_left; focus (intro w hSw; (try dsimp only at hSw); go_simp; try with_reducible rfl)
                  (try simp only [List.getElem_toArray, List.getElem_cons_succ, List.getElem_cons_zero, Act.put, List.setIfInBounds_toArray, List.set_cons_zero, List.set_cons_succ])
                  refine wpAnyH_ready (rs := [12]) (by kernel_rfl) (by simp) ?_
                  refine AllReadyH.cons rfl (fun K hK => ?_) ?_
                  · skip
                    go_simp
                    refine hK.out _ _ ?_ (fun hH2 => ?_)
                    · trivial
                    clear hK K hH
                    have hH := hH2; clear hH2
                    (try simp only [List.getElem_toArray, List.getElem_cons_succ, List.getElem_cons_zero, Act.put, List.setIfInBounds_toArray, List.set_cons_zero, List.set_cons_succ])
                    refine wpAnyH_take (i := 13) (v := ?_) rfl (by kernel_rfl) (by kernel_rfl) (by kernel_rfl) (fun _ _ _ h => h) (Or.inl ⟨by rfl, ?_⟩) (by assumption) ?_
                    rotate_left; focus (intro w hSw; (try dsimp only at hSw); go_simp; try with_reducible rfl)
                    (try simp only [List.getElem_toArray, List.getElem_cons_succ, List.getElem_cons_zero, Act.put, List.setIfInBounds_toArray, List.set_cons_zero, List.set_cons_succ])
                    refine wpAnyH_ready (rs := [14]) (by kernel_rfl) (by simp) ?_
                    refine AllReadyH.cons rfl (fun K hK => ?_) ?_
                    · skip
                      go_simp
                      refine hK.out _ _ ?_ (fun hH2 => ?_)
                      · trivial
                      clear hK K hH
                      have hH := hH2; clear hH2
                      (try simp only [List.getElem_toArray, List.getElem_cons_succ, List.getElem_cons_zero, Act.put, List.setIfInBounds_toArray, List.set_cons_zero, List.set_cons_succ])
                      refine wpAnyH_done (by kernel_rfl) ?_ _
                      clear hH
                      have HF := Lib.hid (c1_of (w := w) (lo := w.heap.size + 2) (vop := vop) (vnum := vnum) (vtx := vtx) (vopn := vopn) (pc := pc) (qc := qc) (kc := kc) hb1 (Nat.le_refl _) (by omega) H0.out H1.out b30 r30 b31 r31 b32 r32)
                      clear b30 r30 b31 r31 b32 r32 cA cA2 hb32 y32 cB fB cB4 cB6
                      go_wp2_with fail
                      go_meet
                      case rel => exact ⟨pa, pc, qa, qc, ka, kc, HF.out⟩
                    exact AllReadyH.nil
                  exact AllReadyH.nil
                exact AllReadyH.nil
              exact AllReadyH.nil
            exact AllReadyH.nil
          exact AllReadyH.nil
        exact AllReadyH.nil
      refine AllReadyH.cons rfl (fun K hK => ?_) ?_
      · skip
        go_simp
        refine hK.out _ _ ?_ (fun hH2 => ?_)
        · trivial
        clear hK K hH
        have hH := hH2; clear hH2
        (try simp only [List.getElem_toArray, List.getElem_cons_succ, List.getElem_cons_zero, Act.put, List.setIfInBounds_toArray, List.set_cons_zero, List.set_cons_succ])
        refine wpAnyH_ready (rs := [2, 4]) (by kernel_rfl) (by simp) ?_
        refine AllReadyH.cons rfl (fun K hK => ?_) ?_
        · skip
          go_simp
          go_at_call 30
          (with_reducible refine (P30.out _ (by exact Below.drew (Below.refl _ _))).mono ?_)
          rintro e u30 ⟨pa, pc, rfl, b30, r30⟩
          replace b30 : Below w1.heap.size w1 u30 := (Below.refl _ _).drew.trans b30
          have cA := fun o => (b30.cell (p := ⟨w.heap.size, o, none⟩) (by show w.heap.size < _; exact hl0)).trans (c1 o)
          refine hK.out _ _ ?_ (fun hH2 => ?_)
          · trivial
          clear hK K hH
          have hH := hH2; clear hH2
          (try simp only [List.getElem_toArray, List.getElem_cons_succ, List.getElem_cons_zero, Act.put, List.setIfInBounds_toArray, List.set_cons_zero, List.set_cons_succ])
          refine wpAnyH_ready (rs := [4]) (by kernel_rfl) (by simp) ?_
          refine AllReadyH.cons rfl (fun K hK => ?_) ?_
          · skip
            go_simp
            refine hK.out _ _ ?_ (fun hH2 => ?_)
            · trivial
            clear hK K hH
            have hH := hH2; clear hH2
            (try simp only [List.getElem_toArray, List.getElem_cons_succ, List.getElem_cons_zero, Act.put, List.setIfInBounds_toArray, List.set_cons_zero, List.set_cons_succ])
            refine wpAnyH_take (i := 9) (v := ?_) rfl (by kernel_rfl) (by kernel_rfl) (by kernel_rfl) (fun _ _ _ h => h) (Or.inl ⟨by rfl, ?_⟩) (by assumption) ?_
            rotate_left; focus (intro w hSw; (try dsimp only at hSw); go_simp; try with_reducible rfl)
            (try simp only [List.getElem_toArray, List.getElem_cons_succ, List.getElem_cons_zero, Act.put, List.setIfInBounds_toArray, List.set_cons_zero, List.set_cons_succ])
            refine wpAnyH_ready (rs := [5]) (by kernel_rfl) (by simp) ?_
            refine AllReadyH.cons rfl (fun K hK => ?_) ?_
            · skip
              go_simp
              go_at_call 31
              (with_reducible refine (P31.out _ (by exact b30)).mono ?_)
              rintro e u31 ⟨qa, qc, rfl, b31, r31⟩
              have cA2 := fun o => (b31.cell (p := ⟨w.heap.size, o, none⟩) (by have := b30.size; show w.heap.size < _; exact Nat.lt_of_lt_of_le hl0 this)).trans (cA o)
              refine hK.out _ _ ?_ (fun hH2 => ?_)
              · trivial
              clear hK K hH
              have hH := hH2; clear hH2
              (try simp only [List.getElem_toArray, List.getElem_cons_succ, List.getElem_cons_zero, Act.put, List.setIfInBounds_toArray, List.set_cons_zero, List.set_cons_succ])
              refine wpAnyH_ready (rs := [8]) (by kernel_rfl) (by simp) ?_
              refine AllReadyH.cons rfl (fun K hK => ?_) ?_
              · skip
                go_simp
                go_at_call 32
                (with_reducible refine (P32.out _ (by exact Below.trans b30 (b31.mono b30.size))).mono ?_)
                rintro e u32 ⟨ka, kc, rfl, b32, r32⟩
                have hb32 := Below.trans b30 ((b31.trans (b32.mono b31.size)).mono b30.size)
                have y32 := (hb32.block _ hl0).trans H0.out
                have cB := cells_of y32
                have fB := cells_free y32
                have cB4 : ∀ u, (u32.setCell ⟨w.heap.size, 3, none⟩ u).cell? ⟨w.heap.size, 4, none⟩ = some (.slice vqa vql vqc) := fun u => (cell_set_ne _ _ _ _ _ _ (Or.inr (by omega))).trans (cB 4)
                have cB6 : ∀ u u', ((u32.setCell ⟨w.heap.size, 3, none⟩ u).setCell ⟨w.heap.size, 4, none⟩ u').cell? ⟨w.heap.size, 6, none⟩ = some (.slice vka vkl vkc) := fun u u' => (cell_set_ne _ _ _ _ _ _ (Or.inr (by omega))).trans ((cell_set_ne _ _ _ _ _ _ (Or.inr (by omega))).trans (cB 6))
                refine hK.out _ _ ?_ (fun hH2 => ?_)
                · trivial
                clear hK K hH
                have hH := hH2; clear hH2
                (try simp only [List.getElem_toArray, List.getElem_cons_succ, List.getElem_cons_zero, Act.put, List.setIfInBounds_toArray, List.set_cons_zero, List.set_cons_succ])
                refine wpAnyH_ready (rs := [10]) (by kernel_rfl) (by simp) ?_
                refine AllReadyH.cons rfl (fun K hK => ?_) ?_
                · skip
                  go_simp
                  refine hK.out _ _ ?_ (fun hH2 => ?_)
                  · trivial
                  clear hK K hH
                  have hH := hH2; clear hH2
                  (try simp only [List.getElem_toArray, List.getElem_cons_succ, List.getElem_cons_zero, Act.put, List.setIfInBounds_toArray, List.set_cons_zero, List.set_cons_succ])
                  refine wpAnyH_take (i := 11) (v := ?_) rfl (by kernel_rfl) (by kernel_rfl) (by kernel_rfl) (fun _ _ _ h => h) (Or.inl ⟨by rfl, ?_⟩) (by assumption) ?_
                  rotate_left; focus (intro w hSw; (try dsimp only at hSw); go_simp; try with_reducible rfl)
                  (try simp only [List.getElem_toArray, List.getElem_cons_succ, List.getElem_cons_zero, Act.put, List.setIfInBounds_toArray, List.set_cons_zero, List.set_cons_succ])
                  refine wpAnyH_ready (rs := [12]) (by kernel_rfl) (by simp) ?_
                  refine AllReadyH.cons rfl (fun K hK => ?_) ?_
                  · skip
                    go_simp
                    refine hK.out _ _ ?_ (fun hH2 => ?_)
                    · trivial
                    clear hK K hH
                    have hH := hH2; clear hH2
                    (try simp only [List.getElem_toArray, List.getElem_cons_succ, List.getElem_cons_zero, Act.put, List.setIfInBounds_toArray, List.set_cons_zero, List.set_cons_succ])
                    refine wpAnyH_take (i := 13) (v := ?_) rfl (by kernel_rfl) (by kernel_rfl) (by kernel_rfl) (fun _ _ _ h => h) (Or.inl ⟨by rfl, ?_⟩) (by assumption) ?_
                    rotate_left; focus (intro w hSw; (try dsimp only at hSw); go_simp; try with_reducible rfl)
                    (try simp only [List.getElem_toArray, List.getElem_cons_succ, List.getElem_cons_zero, Act.put, List.setIfInBounds_toArray, List.set_cons_zero, List.set_cons_succ])
                    refine wpAnyH_ready (rs := [14]) (by kernel_rfl) (by simp) ?_
                    refine AllReadyH.cons rfl (fun K hK => ?_) ?_
                    · skip
                      go_simp
                      refine hK.out _ _ ?_ (fun hH2 => ?_)
                      · trivial
                      clear hK K hH
                      have hH := hH2; clear hH2
                      (try simp only [List.getElem_toArray, List.getElem_cons_succ, List.getElem_cons_zero, Act.put, List.setIfInBounds_toArray, List.set_cons_zero, List.set_cons_succ])
                      refine wpAnyH_done (by kernel_rfl) ?_ _
                      clear hH
                      have HF := Lib.hid (c1_of (w := w) (lo := w.heap.size + 2) (vop := vop) (vnum := vnum) (vtx := vtx) (vopn := vopn) (pc := pc) (qc := qc) (kc := kc) hb1 (Nat.le_refl _) (by omega) H0.out H1.out b30 r30 b31 r31 b32 r32)
                      clear b30 r30 b31 r31 b32 r32 cA cA2 hb32 y32 cB fB cB4 cB6
                      go_wp2_with fail
                      go_meet
                      case rel => exact ⟨pa, pc, qa, qc, ka, kc, HF.out⟩
                    exact AllReadyH.nil
                  exact AllReadyH.nil
                exact AllReadyH.nil
              exact AllReadyH.nil
            exact AllReadyH.nil
          exact AllReadyH.nil
        refine AllReadyH.cons rfl (fun K hK => ?_) ?_
        · skip
          go_simp
          refine hK.out _ _ ?_ (fun hH2 => ?_)
          · trivial
          clear hK K hH
          have hH := hH2; clear hH2
          (try simp only [List.getElem_toArray, List.getElem_cons_succ, List.getElem_cons_zero, Act.put, List.setIfInBounds_toArray, List.set_cons_zero, List.set_cons_succ])
          refine wpAnyH_ready (rs := [2]) (by kernel_rfl) (by simp) ?_
          refine AllReadyH.cons rfl (fun K hK => ?_) ?_
          · skip
            go_simp
            go_at_call 30
            (with_reducible refine (P30.out _ (by exact Below.drew (Below.refl _ _))).mono ?_)
            rintro e u30 ⟨pa, pc, rfl, b30, r30⟩
            replace b30 : Below w1.heap.size w1 u30 := (Below.refl _ _).drew.trans b30
            have cA := fun o => (b30.cell (p := ⟨w.heap.size, o, none⟩) (by show w.heap.size < _; exact hl0)).trans (c1 o)
            refine hK.out _ _ ?_ (fun hH2 => ?_)
            · trivial
            clear hK K hH
            have hH := hH2; clear hH2
            (try simp only [List.getElem_toArray, List.getElem_cons_succ, List.getElem_cons_zero, Act.put, List.setIfInBounds_toArray, List.set_cons_zero, List.set_cons_succ])
            refine wpAnyH_take (i := 9) (v := ?_) rfl (by kernel_rfl) (by kernel_rfl) (by kernel_rfl) (fun _ _ _ h => h) (Or.inl ⟨by rfl, ?_⟩) (by assumption) ?_
            rotate_left; focus (intro w hSw; (try dsimp only at hSw); go_simp; try with_reducible rfl)
            (try simp only [List.getElem_toArray, List.getElem_cons_succ, List.getElem_cons_zero, Act.put, List.setIfInBounds_toArray, List.set_cons_zero, List.set_cons_succ])
            refine wpAnyH_ready (rs := [5]) (by kernel_rfl) (by simp) ?_
            refine AllReadyH.cons rfl (fun K hK => ?_) ?_
            · skip
              go_simp
              go_at_call 31
              (with_reducible refine (P31.out _ (by exact b30)).mono ?_)
              rintro e u31 ⟨qa, qc, rfl, b31, r31⟩
              have cA2 := fun o => (b31.cell (p := ⟨w.heap.size, o, none⟩) (by have := b30.size; show w.heap.size < _; exact Nat.lt_of_lt_of_le hl0 this)).trans (cA o)
              refine hK.out _ _ ?_ (fun hH2 => ?_)
              · trivial
              clear hK K hH
              have hH := hH2; clear hH2
              (try simp only [List.getElem_toArray, List.getElem_cons_succ, List.getElem_cons_zero, Act.put, List.setIfInBounds_toArray, List.set_cons_zero, List.set_cons_succ])
              refine wpAnyH_ready (rs := [8]) (by kernel_rfl) (by simp) ?_
              refine AllReadyH.cons rfl (fun K hK => ?_) ?_
              · skip
                go_simp
                go_at_call 32
                (with_reducible refine (P32.out _ (by exact Below.trans b30 (b31.mono b30.size))).mono ?_)
                rintro e u32 ⟨ka, kc, rfl, b32, r32⟩
                have hb32 := Below.trans b30 ((b31.trans (b32.mono b31.size)).mono b30.size)
                have y32 := (hb32.block _ hl0).trans H0.out
                have cB := cells_of y32
                have fB := cells_free y32
                have cB4 : ∀ u, (u32.setCell ⟨w.heap.size, 3, none⟩ u).cell? ⟨w.heap.size, 4, none⟩ = some (.slice vqa vql vqc) := fun u => (cell_set_ne _ _ _ _ _ _ (Or.inr (by omega))).trans (cB 4)
                have cB6 : ∀ u u', ((u32.setCell ⟨w.heap.size, 3, none⟩ u).setCell ⟨w.heap.size, 4, none⟩ u').cell? ⟨w.heap.size, 6, none⟩ = some (.slice vka vkl vkc) := fun u u' => (cell_set_ne _ _ _ _ _ _ (Or.inr (by omega))).trans ((cell_set_ne _ _ _ _ _ _ (Or.inr (by omega))).trans (cB 6))
                refine hK.out _ _ ?_ (fun hH2 => ?_)
                · trivial
                clear hK K hH
                have hH := hH2; clear hH2
                (try simp only [List.getElem_toArray, List.getElem_cons_succ, List.getElem_cons_zero, Act.put, List.setIfInBounds_toArray, List.set_cons_zero, List.set_cons_succ])
                refine wpAnyH_ready (rs := [10]) (by kernel_rfl) (by simp) ?_
                refine AllReadyH.cons rfl (fun K hK => ?_) ?_
                · skip
                  go_simp
                  refine hK.out _ _ ?_ (fun hH2 => ?_)
                  · trivial
                  clear hK K hH
                  have hH := hH2; clear hH2
                  (try simp only [List.getElem_toArray, List.getElem_cons_succ, List.getElem_cons_zero, Act.put, List.setIfInBounds_toArray, List.set_cons_zero, List.set_cons_succ])
                  refine wpAnyH_take (i := 11) (v := ?_) rfl (by kernel_rfl) (by kernel_rfl) (by kernel_rfl) (fun _ _ _ h => h) (Or.inl ⟨by rfl, ?_⟩) (by assumption) ?_
                  rotate_left; focus (intro w hSw; (try dsimp only at hSw); go_simp; try with_reducible rfl)
                  (try simp only [List.getElem_toArray, List.getElem_cons_succ, List.getElem_cons_zero, Act.put, List.setIfInBounds_toArray, List.set_cons_zero, List.set_cons_succ])
                  refine wpAnyH_ready (rs := [12]) (by kernel_rfl) (by simp) ?_
                  refine AllReadyH.cons rfl (fun K hK => ?_) ?_
                  · skip
                    go_simp
                    refine hK.out _ _ ?_ (fun hH2 => ?_)
                    · trivial
                    clear hK K hH
                    have hH := hH2; clear hH2
                    (try simp only [List.getElem_toArray, List.getElem_cons_succ, List.getElem_cons_zero, Act.put, List.setIfInBounds_toArray, List.set_cons_zero, List.set_cons_succ])
                    refine wpAnyH_take (i := 13) (v := ?_) rfl (by kernel_rfl) (by kernel_rfl) (by kernel_rfl) (fun _ _ _ h => h) (Or.inl ⟨by rfl, ?_⟩) (by assumption) ?_
                    rotate_left; focus (intro w hSw; (try dsimp only at hSw); go_simp; try with_reducible rfl)
                    (try simp only [List.getElem_toArray, List.getElem_cons_succ, List.getElem_cons_zero, Act.put, List.setIfInBounds_toArray, List.set_cons_zero, List.set_cons_succ])
                    refine wpAnyH_ready (rs := [14]) (by kernel_rfl) (by simp) ?_
                    refine AllReadyH.cons rfl (fun K hK => ?_) ?_
                    · skip
                      go_simp
                      refine hK.out _ _ ?_ (fun hH2 => ?_)
                      · trivial
                      clear hK K hH
                      have hH := hH2; clear hH2
                      (try simp only [List.getElem_toArray, List.getElem_cons_succ, List.getElem_cons_zero, Act.put, List.setIfInBounds_toArray, List.set_cons_zero, List.set_cons_succ])
                      refine wpAnyH_done (by kernel_rfl) ?_ _
                      clear hH
                      have HF := Lib.hid (c1_of (w := w) (lo := w.heap.size + 2) (vop := vop) (vnum := vnum) (vtx := vtx) (vopn := vopn) (pc := pc) (qc := qc) (kc := kc) hb1 (Nat.le_refl _) (by omega) H0.out H1.out b30 r30 b31 r31 b32 r32)
                      clear b30 r30 b31 r31 b32 r32 cA cA2 hb32 y32 cB fB cB4 cB6
                      go_wp2_with fail
                      go_meet
                      case rel => exact ⟨pa, pc, qa, qc, ka, kc, HF.out⟩
                    exact AllReadyH.nil
                  exact AllReadyH.nil
                exact AllReadyH.nil
              exact AllReadyH.nil
            exact AllReadyH.nil
          exact AllReadyH.nil
        exact AllReadyH.nil
      exact AllReadyH.nil
    refine AllReadyH.cons rfl (fun K hK => ?_) ?_
    · skip
      go_simp
      refine hK.out _ _ ?_ (fun hH2 => ?_)
      · trivial
      clear hK K hH
      have hH := hH2; clear hH2
      (try simp only [List.getElem_toArray, List.getElem_cons_succ, List.getElem_cons_zero, Act.put, List.setIfInBounds_toArray, List.set_cons_zero, List.set_cons_succ])
      refine wpAnyH_ready (rs := [1, 7]) (by kernel_rfl) (by simp) ?_
      refine AllReadyH.cons rfl (fun K hK => ?_) ?_
      · skip
        go_simp
        refine hK.out _ _ ?_ (fun hH2 => ?_)
        · trivial
        clear hK K hH
        have hH := hH2; clear hH2
        (try simp only [List.getElem_toArray, List.getElem_cons_succ, List.getElem_cons_zero, Act.put, List.setIfInBounds_toArray, List.set_cons_zero, List.set_cons_succ])
        refine wpAnyH_ready (rs := [2, 7]) (by kernel_rfl) (by simp) ?_
        refine AllReadyH.cons rfl (fun K hK => ?_) ?_
        · skip
          go_simp
          go_at_call 30
          (with_reducible refine (P30.out _ (by exact Below.drew (Below.refl _ _))).mono ?_)
          rintro e u30 ⟨pa, pc, rfl, b30, r30⟩
          replace b30 : Below w1.heap.size w1 u30 := (Below.refl _ _).drew.trans b30
          have cA := fun o => (b30.cell (p := ⟨w.heap.size, o, none⟩) (by show w.heap.size < _; exact hl0)).trans (c1 o)
          refine hK.out _ _ ?_ (fun hH2 => ?_)
          · trivial
          clear hK K hH
          have hH := hH2; clear hH2
          (try simp only [List.getElem_toArray, List.getElem_cons_succ, List.getElem_cons_zero, Act.put, List.setIfInBounds_toArray, List.set_cons_zero, List.set_cons_succ])
          refine wpAnyH_ready (rs := [5, 7]) (by kernel_rfl) (by simp) ?_
          refine AllReadyH.cons rfl (fun K hK => ?_) ?_
          · skip
            go_simp
            go_at_call 31
            (with_reducible refine (P31.out _ (by exact b30)).mono ?_)
            rintro e u31 ⟨qa, qc, rfl, b31, r31⟩
            have cA2 := fun o => (b31.cell (p := ⟨w.heap.size, o, none⟩) (by have := b30.size; show w.heap.size < _; exact Nat.lt_of_lt_of_le hl0 this)).trans (cA o)
            refine hK.out _ _ ?_ (fun hH2 => ?_)
            · trivial
            clear hK K hH
            have hH := hH2; clear hH2
            (try simp only [List.getElem_toArray, List.getElem_cons_succ, List.getElem_cons_zero, Act.put, List.setIfInBounds_toArray, List.set_cons_zero, List.set_cons_succ])
            refine wpAnyH_ready (rs := [7]) (by kernel_rfl) (by simp) ?_
            refine AllReadyH.cons rfl (fun K hK => ?_) ?_
            · skip
              go_simp
              refine hK.out _ _ ?_ (fun hH2 => ?_)
              · trivial
              clear hK K hH
              have hH := hH2; clear hH2
              (try simp only [List.getElem_toArray, List.getElem_cons_succ, List.getElem_cons_zero, Act.put, List.setIfInBounds_toArray, List.set_cons_zero, List.set_cons_succ])
              refine wpAnyH_take (i := 9) (v := ?_) rfl (by kernel_rfl) (by kernel_rfl) (by kernel_rfl) (fun _ _ _ h => h) (Or.inl ⟨by rfl, ?_⟩) (by assumption) ?_
              rotate_left; focus (intro w hSw; (try dsimp only at hSw); go_simp; try with_reducible rfl)
              (try simp only [List.getElem_toArray, List.getElem_cons_succ, List.getElem_cons_zero, Act.put, List.setIfInBounds_toArray, List.set_cons_zero, List.set_cons_succ])
              refine wpAnyH_ready (rs := [8]) (by kernel_rfl) (by simp) ?_
              refine AllReadyH.cons rfl (fun K hK => ?_) ?_
              · skip
                go_simp
                go_at_call 32
                (with_reducible refine (P32.out _ (by exact Below.trans b30 (b31.mono b30.size))).mono ?_)
                rintro e u32 ⟨ka, kc, rfl, b32, r32⟩
                have hb32 := Below.trans b30 ((b31.trans (b32.mono b31.size)).mono b30.size)
                have y32 := (hb32.block _ hl0).trans H0.out
                have cB := cells_of y32
                have fB := cells_free y32
                have cB4 : ∀ u, (u32.setCell ⟨w.heap.size, 3, none⟩ u).cell? ⟨w.heap.size, 4, none⟩ = some (.slice vqa vql vqc) := fun u => (cell_set_ne _ _ _ _ _ _ (Or.inr (by omega))).trans (cB 4)
                have cB6 : ∀ u u', ((u32.setCell ⟨w.heap.size, 3, none⟩ u).setCell ⟨w.heap.size, 4, none⟩ u').cell? ⟨w.heap.size, 6, none⟩ = some (.slice vka vkl vkc) := fun u u' => (cell_set_ne _ _ _ _ _ _ (Or.inr (by omega))).trans ((cell_set_ne _ _ _ _ _ _ (Or.inr (by omega))).trans (cB 6))
                refine hK.out _ _ ?_ (fun hH2 => ?_)
                · trivial
                clear hK K hH
                have hH := hH2; clear hH2
                (try simp only [List.getElem_toArray, List.getElem_cons_succ, List.getElem_cons_zero, Act.put, List.setIfInBounds_toArray, List.set_cons_zero, List.set_cons_succ])
                refine wpAnyH_ready (rs := [10]) (by kernel_rfl) (by simp) ?_
                refine AllReadyH.cons rfl (fun K hK => ?_) ?_
                · skip
                  go_simp
                  refine hK.out _ _ ?_ (fun hH2 => ?_)
                  · trivial
                  clear hK K hH
                  have hH := hH2; clear hH2
                  (try simp only [List.getElem_toArray, List.getElem_cons_succ, List.getElem_cons_zero, Act.put, List.setIfInBounds_toArray, List.set_cons_zero, List.set_cons_succ])
                  refine wpAnyH_take (i := 11) (v := ?_) rfl (by kernel_rfl) (by kernel_rfl) (by kernel_rfl) (fun _ _ _ h => h) (Or.inl ⟨by rfl, ?_⟩) (by assumption) ?_
                  rotate_left; focus (intro w hSw; (try dsimp only at hSw); go_simp; try with_reducible rfl)
                  (try simp only [List.getElem_toArray, List.getElem_cons_succ, List.getElem_cons_zero, Act.put, List.setIfInBounds_toArray, List.set_cons_zero, List.set_cons_succ])
                  refine wpAnyH_ready (rs := [12]) (by kernel_rfl) (by simp) ?_
                  refine AllReadyH.cons rfl (fun K hK => ?_) ?_
                  · skip
                    go_simp
                    refine hK.out _ _ ?_ (fun hH2 => ?_)
                    · trivial
                    clear hK K hH
                    have hH := hH2; clear hH2
                    (try simp only [List.getElem_toArray, List.getElem_cons_succ, List.getElem_cons_zero, Act.put, List.setIfInBounds_toArray, List.set_cons_zero, List.set_cons_succ])
                    refine wpAnyH_take (i := 13) (v := ?_) rfl (by kernel_rfl) (by kernel_rfl) (by kernel_rfl) (fun _ _ _ h => h) (Or.inl ⟨by rfl, ?_⟩) (by assumption) ?_
                    rotate_left; focus (intro w hSw; (try dsimp only at hSw); go_simp; try with_reducible rfl)
                    (try simp only [List.getElem_toArray, List.getElem_cons_succ, List.getElem_cons_zero, Act.put, List.setIfInBounds_toArray, List.set_cons_zero, List.set_cons_succ])
                    refine wpAnyH_ready (rs := [14]) (by kernel_rfl) (by simp) ?_
                    refine AllReadyH.cons rfl (fun K hK => ?_) ?_
                    · skip
                      go_simp
                      refine hK.out _ _ ?_ (fun hH2 => ?_)
                      · trivial
                      clear hK K hH
                      have hH := hH2; clear hH2
                      (try simp only [List.getElem_toArray, List.getElem_cons_succ, List.getElem_cons_zero, Act.put, List.setIfInBounds_toArray, List.set_cons_zero, List.set_cons_succ])
                      refine wpAnyH_done (by kernel_rfl) ?_ _
                      clear hH
                      have HF := Lib.hid (c1_of (w := w) (lo := w.heap.size + 2) (vop := vop) (vnum := vnum) (vtx := vtx) (vopn := vopn) (pc := pc) (qc := qc) (kc := kc) hb1 (Nat.le_refl _) (by omega) H0.out H1.out b30 r30 b31 r31 b32 r32)
                      clear b30 r30 b31 r31 b32 r32 cA cA2 hb32 y32 cB fB cB4 cB6
                      go_wp2_with fail
                      go_meet
                      case rel => exact ⟨pa, pc, qa, qc, ka, kc, HF.out⟩
                    exact AllReadyH.nil
                  exact AllReadyH.nil
                exact AllReadyH.nil
              exact AllReadyH.nil
            exact AllReadyH.nil
          refine AllReadyH.cons rfl (fun K hK => ?_) ?_
          · skip
            go_simp
            refine hK.out _ _ ?_ (fun hH2 => ?_)
            · trivial
            clear hK K hH
            have hH := hH2; clear hH2
            (try simp only [List.getElem_toArray, List.getElem_cons_succ, List.getElem_cons_zero, Act.put, List.setIfInBounds_toArray, List.set_cons_zero, List.set_cons_succ])
            refine wpAnyH_take (i := 9) (v := ?_) rfl (by kernel_rfl) (by kernel_rfl) (by kernel_rfl) (fun _ _ _ h => h) (Or.inl ⟨by rfl, ?_⟩) (by assumption) ?_
            rotate_left; focus (intro w hSw; (try dsimp only at hSw); go_simp; try with_reducible rfl)
            (try simp only [List.getElem_toArray, List.getElem_cons_succ, List.getElem_cons_zero, Act.put, List.setIfInBounds_toArray, List.set_cons_zero, List.set_cons_succ])
            refine wpAnyH_ready (rs := [5]) (by kernel_rfl) (by simp) ?_
            refine AllReadyH.cons rfl (fun K hK => ?_) ?_
            · skip
              go_simp
              go_at_call 31
              (with_reducible refine (P31.out _ (by exact b30)).mono ?_)
              rintro e u31 ⟨qa, qc, rfl, b31, r31⟩
              have cA2 := fun o => (b31.cell (p := ⟨w.heap.size, o, none⟩) (by have := b30.size; show w.heap.size < _; exact Nat.lt_of_lt_of_le hl0 this)).trans (cA o)
              refine hK.out _ _ ?_ (fun hH2 => ?_)
              · trivial
              clear hK K hH
              have hH := hH2; clear hH2
              (try simp only [List.getElem_toArray, List.getElem_cons_succ, List.getElem_cons_zero, Act.put, List.setIfInBounds_toArray, List.set_cons_zero, List.set_cons_succ])
              refine wpAnyH_ready (rs := [8]) (by kernel_rfl) (by simp) ?_
              refine AllReadyH.cons rfl (fun K hK => ?_) ?_
              · skip
                go_simp
                go_at_call 32
                (with_reducible refine (P32.out _ (by exact Below.trans b30 (b31.mono b30.size))).mono ?_)
                rintro e u32 ⟨ka, kc, rfl, b32, r32⟩
                have hb32 := Below.trans b30 ((b31.trans (b32.mono b31.size)).mono b30.size)
                have y32 := (hb32.block _ hl0).trans H0.out
                have cB := cells_of y32
                have fB := cells_free y32
                have cB4 : ∀ u, (u32.setCell ⟨w.heap.size, 3, none⟩ u).cell? ⟨w.heap.size, 4, none⟩ = some (.slice vqa vql vqc) := fun u => (cell_set_ne _ _ _ _ _ _ (Or.inr (by omega))).trans (cB 4)
                have cB6 : ∀ u u', ((u32.setCell ⟨w.heap.size, 3, none⟩ u).setCell ⟨w.heap.size, 4, none⟩ u').cell? ⟨w.heap.size, 6, none⟩ = some (.slice vka vkl vkc) := fun u u' => (cell_set_ne _ _ _ _ _ _ (Or.inr (by omega))).trans ((cell_set_ne _ _ _ _ _ _ (Or.inr (by omega))).trans (cB 6))
                refine hK.out _ _ ?_ (fun hH2 => ?_)
                · trivial
                clear hK K hH
                have hH := hH2; clear hH2
                (try simp only [List.getElem_toArray, List.getElem_cons_succ, List.getElem_cons_zero, Act.put, List.setIfInBounds_toArray, List.set_cons_zero, List.set_cons_succ])
                refine wpAnyH_ready (rs := [10]) (by kernel_rfl) (by simp) ?_
                refine AllReadyH.cons rfl (fun K hK => ?_) ?_
                · skip
                  go_simp
                  refine hK.out _ _ ?_ (fun hH2 => ?_)
                  · trivial
                  clear hK K hH
                  have hH := hH2; clear hH2
                  (try simp only [List.getElem_toArray, List.getElem_cons_succ, List.getElem_cons_zero, Act.put, List.setIfInBounds_toArray, List.set_cons_zero, List.set_cons_succ])
                  refine wpAnyH_take (i := 11) (v := ?_) rfl (by kernel_rfl) (by kernel_rfl) (by kernel_rfl) (fun _ _ _ h => h) (Or.inl ⟨by rfl, ?_⟩) (by assumption) ?_
                  rotate_left; focus (intro w hSw; (try dsimp only at hSw); go_simp; try with_reducible rfl)
                  (try simp only [List.getElem_toArray, List.getElem_cons_succ, List.getElem_cons_zero, Act.put, List.setIfInBounds_toArray, List.set_cons_zero, List.set_cons_succ])
                  refine wpAnyH_ready (rs := [12]) (by kernel_rfl) (by simp) ?_
                  refine AllReadyH.cons rfl (fun K hK => ?_) ?_
                  · skip
                    go_simp
                    refine hK.out _ _ ?_ (fun hH2 => ?_)
                    · trivial
                    clear hK K hH
                    have hH := hH2; clear hH2
                    (try simp only [List.getElem_toArray, List.getElem_cons_succ, List.getElem_cons_zero, Act.put, List.setIfInBounds_toArray, List.set_cons_zero, List.set_cons_succ])
                    refine wpAnyH_take (i := 13) (v := ?_) rfl (by kernel_rfl) (by kernel_rfl) (by kernel_rfl) (fun _ _ _ h => h) (Or.inl ⟨by rfl, ?_⟩) (by assumption) ?_
                    rotate_left; focus (intro w hSw; (try dsimp only at hSw); go_simp; try with_reducible rfl)
                    (try simp only [List.getElem_toArray, List.getElem_cons_succ, List.getElem_cons_zero, Act.put, List.setIfInBounds_toArray, List.set_cons_zero, List.set_cons_succ])
                    refine wpAnyH_ready (rs := [14]) (by kernel_rfl) (by simp) ?_
                    refine AllReadyH.cons rfl (fun K hK => ?_) ?_
                    · skip
                      go_simp
                      refine hK.out _ _ ?_ (fun hH2 => ?_)
                      · trivial
                      clear hK K hH
                      have hH := hH2; clear hH2
                      (try simp only [List.getElem_toArray, List.getElem_cons_succ, List.getElem_cons_zero, Act.put, List.setIfInBounds_toArray, List.set_cons_zero, List.set_cons_succ])
                      refine wpAnyH_done (by kernel_rfl) ?_ _
                      clear hH
                      have HF := Lib.hid (c1_of (w := w) (lo := w.heap.size + 2) (vop := vop) (vnum := vnum) (vtx := vtx) (vopn := vopn) (pc := pc) (qc := qc) (kc := kc) hb1 (Nat.le_refl _) (by omega) H0.out H1.out b30 r30 b31 r31 b32 r32)
                      clear b30 r30 b31 r31 b32 r32 cA cA2 hb32 y32 cB fB cB4 cB6
                      go_wp2_with fail
                      go_meet
                      case rel => exact ⟨pa, pc, qa, qc, ka, kc, HF.out⟩
                    exact AllReadyH.nil
                  exact AllReadyH.nil
                exact AllReadyH.nil
              exact AllReadyH.nil
            exact AllReadyH.nil
          exact AllReadyH.nil
        refine AllReadyH.cons rfl (fun K hK => ?_) ?_
        · skip
          go_simp
          refine hK.out _ _ ?_ (fun hH2 => ?_)
          · trivial
          clear hK K hH
          have hH := hH2; clear hH2
          (try simp only [List.getElem_toArray, List.getElem_cons_succ, List.getElem_cons_zero, Act.put, List.setIfInBounds_toArray, List.set_cons_zero, List.set_cons_succ])
          refine wpAnyH_ready (rs := [2]) (by kernel_rfl) (by simp) ?_
          refine AllReadyH.cons rfl (fun K hK => ?_) ?_
          · skip
            go_simp
            go_at_call 30
            (with_reducible refine (P30.out _ (by exact Below.drew (Below.refl _ _))).mono ?_)
            rintro e u30 ⟨pa, pc, rfl, b30, r30⟩
            replace b30 : Below w1.heap.size w1 u30 := (Below.refl _ _).drew.trans b30
            have cA := fun o => (b30.cell (p := ⟨w.heap.size, o, none⟩) (by show w.heap.size < _; exact hl0)).trans (c1 o)
            refine hK.out _ _ ?_ (fun hH2 => ?_)
            · trivial
            clear hK K hH
            have hH := hH2; clear hH2
            (try simp only [List.getElem_toArray, List.getElem_cons_succ, List.getElem_cons_zero, Act.put, List.setIfInBounds_toArray, List.set_cons_zero, List.set_cons_succ])
            refine wpAnyH_take (i := 9) (v := ?_) rfl (by kernel_rfl) (by kernel_rfl) (by kernel_rfl) (fun _ _ _ h => h) (Or.inl ⟨by rfl, ?_⟩) (by assumption) ?_
            rotate_left; focus (intro w hSw; (try dsimp only at hSw); go_simp; try with_reducible rfl)
            (try simp only [List.getElem_toArray, List.getElem_cons_succ, List.getElem_cons_zero, Act.put, List.setIfInBounds_toArray, List.set_cons_zero, List.set_cons_succ])
            refine wpAnyH_ready (rs := [5]) (by kernel_rfl) (by simp) ?_
            refine AllReadyH.cons rfl (fun K hK => ?_) ?_
            · skip
              go_simp
              go_at_call 31
              (with_reducible refine (P31.out _ (by exact b30)).mono ?_)
              rintro e u31 ⟨qa, qc, rfl, b31, r31⟩
              have cA2 := fun o => (b31.cell (p := ⟨w.heap.size, o, none⟩) (by have := b30.size; show w.heap.size < _; exact Nat.lt_of_lt_of_le hl0 this)).trans (cA o)
              refine hK.out _ _ ?_ (fun hH2 => ?_)
              · trivial
              clear hK K hH
              have hH := hH2; clear hH2
              (try simp only [List.getElem_toArray, List.getElem_cons_succ, List.getElem_cons_zero, Act.put, List.setIfInBounds_toArray, List.set_cons_zero, List.set_cons_succ])
              refine wpAnyH_ready (rs := [8]) (by kernel_rfl) (by simp) ?_
              refine AllReadyH.cons rfl (fun K hK => ?_) ?_
              · skip
                go_simp
                go_at_call 32
                (with_reducible refine (P32.out _ (by exact Below.trans b30 (b31.mono b30.size))).mono ?_)
                rintro e u32 ⟨ka, kc, rfl, b32, r32⟩
                have hb32 := Below.trans b30 ((b31.trans (b32.mono b31.size)).mono b30.size)
                have y32 := (hb32.block _ hl0).trans H0.out
                have cB := cells_of y32
                have fB := cells_free y32
                have cB4 : ∀ u, (u32.setCell ⟨w.heap.size, 3, none⟩ u).cell? ⟨w.heap.size, 4, none⟩ = some (.slice vqa vql vqc) := fun u => (cell_set_ne _ _ _ _ _ _ (Or.inr (by omega))).trans (cB 4)
                have cB6 : ∀ u u', ((u32.setCell ⟨w.heap.size, 3, none⟩ u).setCell ⟨w.heap.size, 4, none⟩ u').cell? ⟨w.heap.size, 6, none⟩ = some (.slice vka vkl vkc) := fun u u' => (cell_set_ne _ _ _ _ _ _ (Or.inr (by omega))).trans ((cell_set_ne _ _ _ _ _ _ (Or.inr (by omega))).trans (cB 6))
                refine hK.out _ _ ?_ (fun hH2 => ?_)
                · trivial
                clear hK K hH
                have hH := hH2; clear hH2
                (try simp only [List.getElem_toArray, List.getElem_cons_succ, List.getElem_cons_zero, Act.put, List.setIfInBounds_toArray, List.set_cons_zero, List.set_cons_succ])
                refine wpAnyH_ready (rs := [10]) (by kernel_rfl) (by simp) ?_
                refine AllReadyH.cons rfl (fun K hK => ?_) ?_
                · skip
                  go_simp
                  refine hK.out _ _ ?_ (fun hH2 => ?_)
                  · trivial
                  clear hK K hH
                  have hH := hH2; clear hH2
                  (try simp only [List.getElem_toArray, List.getElem_cons_succ, List.getElem_cons_zero, Act.put, List.setIfInBounds_toArray, List.set_cons_zero, List.set_cons_succ])
                  refine wpAnyH_take (i := 11) (v := ?_) rfl (by kernel_rfl) (by kernel_rfl) (by kernel_rfl) (fun _ _ _ h => h) (Or.inl ⟨by rfl, ?_⟩) (by assumption) ?_
                  rotate_left; focus (intro w hSw; (try dsimp only at hSw); go_simp; try with_reducible rfl)
                  (try simp only [List.getElem_toArray, List.getElem_cons_succ, List.getElem_cons_zero, Act.put, List.setIfInBounds_toArray, List.set_cons_zero, List.set_cons_succ])
                  refine wpAnyH_ready (rs := [12]) (by kernel_rfl) (by simp) ?_
                  refine AllReadyH.cons rfl (fun K hK => ?_) ?_
                  · skip
                    go_simp
                    refine hK.out _ _ ?_ (fun hH2 => ?_)
                    · trivial
                    clear hK K hH
                    have hH := hH2; clear hH2
                    (try simp only [List.getElem_toArray, List.getElem_cons_succ, List.getElem_cons_zero, Act.put, List.setIfInBounds_toArray, List.set_cons_zero, List.set_cons_succ])
                    refine wpAnyH_take (i := 13) (v := ?_) rfl (by kernel_rfl) (by kernel_rfl) (by kernel_rfl) (fun _ _ _ h => h) (Or.inl ⟨by rfl, ?_⟩) (by assumption) ?_
                    rotate_left; focus (intro w hSw; (try dsimp only at hSw); go_simp; try with_reducible rfl)
                    (try simp only [List.getElem_toArray, List.getElem_cons_succ, List.getElem_cons_zero, Act.put, List.setIfInBounds_toArray, List.set_cons_zero, List.set_cons_succ])
                    refine wpAnyH_ready (rs := [14]) (by kernel_rfl) (by simp) ?_
                    refine AllReadyH.cons rfl (fun K hK => ?_) ?_
                    · skip
                      go_simp
                      refine hK.out _ _ ?_ (fun hH2 => ?_)
                      · trivial
                      clear hK K hH
                      have hH := hH2; clear hH2
                      (try simp only [List.getElem_toArray, List.getElem_cons_succ, List.getElem_cons_zero, Act.put, List.setIfInBounds_toArray, List.set_cons_zero, List.set_cons_succ])
                      refine wpAnyH_done (by kernel_rfl) ?_ _
                      clear hH
                      have HF := Lib.hid (c1_of (w := w) (lo := w.heap.size + 2) (vop := vop) (vnum := vnum) (vtx := vtx) (vopn := vopn) (pc := pc) (qc := qc) (kc := kc) hb1 (Nat.le_refl _) (by omega) H0.out H1.out b30 r30 b31 r31 b32 r32)
                      clear b30 r30 b31 r31 b32 r32 cA cA2 hb32 y32 cB fB cB4 cB6
                      go_wp2_with fail
                      go_meet
                      case rel => exact ⟨pa, pc, qa, qc, ka, kc, HF.out⟩
                    exact AllReadyH.nil
                  exact AllReadyH.nil
                exact AllReadyH.nil
              exact AllReadyH.nil
            exact AllReadyH.nil
          exact AllReadyH.nil
        exact AllReadyH.nil
      refine AllReadyH.cons rfl (fun K hK => ?_) ?_
      · skip
        go_simp
        refine hK.out _ _ ?_ (fun hH2 => ?_)
        · trivial
        clear hK K hH
        have hH := hH2; clear hH2
        (try simp only [List.getElem_toArray, List.getElem_cons_succ, List.getElem_cons_zero, Act.put, List.setIfInBounds_toArray, List.set_cons_zero, List.set_cons_succ])
        refine wpAnyH_ready (rs := [1]) (by kernel_rfl) (by simp) ?_
        refine AllReadyH.cons rfl (fun K hK => ?_) ?_
        · skip
          go_simp
          refine hK.out _ _ ?_ (fun hH2 => ?_)
          · trivial
          clear hK K hH
          have hH := hH2; clear hH2
          (try simp only [List.getElem_toArray, List.getElem_cons_succ, List.getElem_cons_zero, Act.put, List.setIfInBounds_toArray, List.set_cons_zero, List.set_cons_succ])
          refine wpAnyH_ready (rs := [2]) (by kernel_rfl) (by simp) ?_
          refine AllReadyH.cons rfl (fun K hK => ?_) ?_
          · skip
            go_simp
            go_at_call 30
            (with_reducible refine (P30.out _ (by exact Below.drew (Below.refl _ _))).mono ?_)
            rintro e u30 ⟨pa, pc, rfl, b30, r30⟩
            replace b30 : Below w1.heap.size w1 u30 := (Below.refl _ _).drew.trans b30
            have cA := fun o => (b30.cell (p := ⟨w.heap.size, o, none⟩) (by show w.heap.size < _; exact hl0)).trans (c1 o)
            refine hK.out _ _ ?_ (fun hH2 => ?_)
            · trivial
            clear hK K hH
            have hH := hH2; clear hH2
            (try simp only [List.getElem_toArray, List.getElem_cons_succ, List.getElem_cons_zero, Act.put, List.setIfInBounds_toArray, List.set_cons_zero, List.set_cons_succ])
            refine wpAnyH_take (i := 9) (v := ?_) rfl (by kernel_rfl) (by kernel_rfl) (by kernel_rfl) (fun _ _ _ h => h) (Or.inl ⟨by rfl, ?_⟩) (by assumption) ?_
            rotate_left; focus (intro w hSw; (try dsimp only at hSw); go_simp; try with_reducible rfl)
            (try simp only [List.getElem_toArray, List.getElem_cons_succ, List.getElem_cons_zero, Act.put, List.setIfInBounds_toArray, List.set_cons_zero, List.set_cons_succ])
            refine wpAnyH_ready (rs := [5]) (by kernel_rfl) (by simp) ?_
            refine AllReadyH.cons rfl (fun K hK => ?_) ?_
            · skip
              go_simp
              go_at_call 31
              (with_reducible refine (P31.out _ (by exact b30)).mono ?_)
              rintro e u31 ⟨qa, qc, rfl, b31, r31⟩
              have cA2 := fun o => (b31.cell (p := ⟨w.heap.size, o, none⟩) (by have := b30.size; show w.heap.size < _; exact Nat.lt_of_lt_of_le hl0 this)).trans (cA o)
              refine hK.out _ _ ?_ (fun hH2 => ?_)
              · trivial
              clear hK K hH
              have hH := hH2; clear hH2
              (try simp only [List.getElem_toArray, List.getElem_cons_succ, List.getElem_cons_zero, Act.put, List.setIfInBounds_toArray, List.set_cons_zero, List.set_cons_succ])
              refine wpAnyH_ready (rs := [8]) (by kernel_rfl) (by simp) ?_
              refine AllReadyH.cons rfl (fun K hK => ?_) ?_
              · skip
                go_simp
                go_at_call 32
                (with_reducible refine (P32.out _ (by exact Below.trans b30 (b31.mono b30.size))).mono ?_)
                rintro e u32 ⟨ka, kc, rfl, b32, r32⟩
                have hb32 := Below.trans b30 ((b31.trans (b32.mono b31.size)).mono b30.size)
                have y32 := (hb32.block _ hl0).trans H0.out
                have cB := cells_of y32
                have fB := cells_free y32
                have cB4 : ∀ u, (u32.setCell ⟨w.heap.size, 3, none⟩ u).cell? ⟨w.heap.size, 4, none⟩ = some (.slice vqa vql vqc) := fun u => (cell_set_ne _ _ _ _ _ _ (Or.inr (by omega))).trans (cB 4)
                have cB6 : ∀ u u', ((u32.setCell ⟨w.heap.size, 3, none⟩ u).setCell ⟨w.heap.size, 4, none⟩ u').cell? ⟨w.heap.size, 6, none⟩ = some (.slice vka vkl vkc) := fun u u' => (cell_set_ne _ _ _ _ _ _ (Or.inr (by omega))).trans ((cell_set_ne _ _ _ _ _ _ (Or.inr (by omega))).trans (cB 6))
                refine hK.out _ _ ?_ (fun hH2 => ?_)
                · trivial
                clear hK K hH
                have hH := hH2; clear hH2
                (try simp only [List.getElem_toArray, List.getElem_cons_succ, List.getElem_cons_zero, Act.put, List.setIfInBounds_toArray, List.set_cons_zero, List.set_cons_succ])
                refine wpAnyH_ready (rs := [10]) (by kernel_rfl) (by simp) ?_
                refine AllReadyH.cons rfl (fun K hK => ?_) ?_
                · skip
                  go_simp
                  refine hK.out _ _ ?_ (fun hH2 => ?_)
                  · trivial
                  clear hK K hH
                  have hH := hH2; clear hH2
                  (try simp only [List.getElem_toArray, List.getElem_cons_succ, List.getElem_cons_zero, Act.put, List.setIfInBounds_toArray, List.set_cons_zero, List.set_cons_succ])
                  refine wpAnyH_take (i := 11) (v := ?_) rfl (by kernel_rfl) (by kernel_rfl) (by kernel_rfl) (fun _ _ _ h => h) (Or.inl ⟨by rfl, ?_⟩) (by assumption) ?_
                  rotate_left; focus (intro w hSw; (try dsimp only at hSw); go_simp; try with_reducible rfl)
                  (try simp only [List.getElem_toArray, List.getElem_cons_succ, List.getElem_cons_zero, Act.put, List.setIfInBounds_toArray, List.set_cons_zero, List.set_cons_succ])
                  refine wpAnyH_ready (rs := [12]) (by kernel_rfl) (by simp) ?_
                  refine AllReadyH.cons rfl (fun K hK => ?_) ?_
                  · skip
                    go_simp
                    refine hK.out _ _ ?_ (fun hH2 => ?_)
                    · trivial
                    clear hK K hH
                    have hH := hH2; clear hH2
                    (try simp only [List.getElem_toArray, List.getElem_cons_succ, List.getElem_cons_zero, Act.put, List.setIfInBounds_toArray, List.set_cons_zero, List.set_cons_succ])
                    refine wpAnyH_take (i := 13) (v := ?_) rfl (by kernel_rfl) (by kernel_rfl) (by kernel_rfl) (fun _ _ _ h => h) (Or.inl ⟨by rfl, ?_⟩) (by assumption) ?_
                    rotate_left; focus (intro w hSw; (try dsimp only at hSw); go_simp; try with_reducible rfl)
                    (try simp only [List.getElem_toArray, List.getElem_cons_succ, List.getElem_cons_zero, Act.put, List.setIfInBounds_toArray, List.set_cons_zero, List.set_cons_succ])
                    refine wpAnyH_ready (rs := [14]) (by kernel_rfl) (by simp) ?_
                    refine AllReadyH.cons rfl (fun K hK => ?_) ?_
                    · skip
                      go_simp
                      refine hK.out _ _ ?_ (fun hH2 => ?_)
                      · trivial
                      clear hK K hH
                      have hH := hH2; clear hH2
                      (try simp only [List.getElem_toArray, List.getElem_cons_succ, List.getElem_cons_zero, Act.put, List.setIfInBounds_toArray, List.set_cons_zero, List.set_cons_succ])
                      refine wpAnyH_done (by kernel_rfl) ?_ _
                      clear hH
                      have HF := Lib.hid (c1_of (w := w) (lo := w.heap.size + 2) (vop := vop) (vnum := vnum) (vtx := vtx) (vopn := vopn) (pc := pc) (qc := qc) (kc := kc) hb1 (Nat.le_refl _) (by omega) H0.out H1.out b30 r30 b31 r31 b32 r32)
                      clear b30 r30 b31 r31 b32 r32 cA cA2 hb32 y32 cB fB cB4 cB6
                      go_wp2_with fail
                      go_meet
                      case rel => exact ⟨pa, pc, qa, qc, ka, kc, HF.out⟩
                    exact AllReadyH.nil
                  exact AllReadyH.nil
                exact AllReadyH.nil
              exact AllReadyH.nil
            exact AllReadyH.nil
          exact AllReadyH.nil
        exact AllReadyH.nil
      exact AllReadyH.nil
    refine AllReadyH.cons rfl (fun K hK => ?_) ?_
    · skip
      go_simp
      refine hK.out _ _ ?_ (fun hH2 => ?_)
      · trivial
      clear hK K hH
      have hH := hH2; clear hH2
      (try simp only [List.getElem_toArray, List.getElem_cons_succ, List.getElem_cons_zero, Act.put, List.setIfInBounds_toArray, List.set_cons_zero, List.set_cons_succ])
      refine wpAnyH_ready (rs := [1, 4]) (by kernel_rfl) (by simp) ?_
      refine AllReadyH.cons rfl (fun K hK => ?_) ?_
      · skip
        go_simp
        refine hK.out _ _ ?_ (fun hH2 => ?_)
        · trivial
        clear hK K hH
        have hH := hH2; clear hH2
        (try simp only [List.getElem_toArray, List.getElem_cons_succ, List.getElem_cons_zero, Act.put, List.setIfInBounds_toArray, List.set_cons_zero, List.set_cons_succ])
        refine wpAnyH_ready (rs := [2, 4]) (by kernel_rfl) (by simp) ?_
        refine AllReadyH.cons rfl (fun K hK => ?_) ?_
        · skip
          go_simp
          go_at_call 30
          (with_reducible refine (P30.out _ (by exact Below.drew (Below.refl _ _))).mono ?_)
          rintro e u30 ⟨pa, pc, rfl, b30, r30⟩
          replace b30 : Below w1.heap.size w1 u30 := (Below.refl _ _).drew.trans b30
          have cA := fun o => (b30.cell (p := ⟨w.heap.size, o, none⟩) (by show w.heap.size < _; exact hl0)).trans (c1 o)
          refine hK.out _ _ ?_ (fun hH2 => ?_)
          · trivial
          clear hK K hH
          have hH := hH2; clear hH2
          (try simp only [List.getElem_toArray, List.getElem_cons_succ, List.getElem_cons_zero, Act.put, List.setIfInBounds_toArray, List.set_cons_zero, List.set_cons_succ])
          refine wpAnyH_ready (rs := [4]) (by kernel_rfl) (by simp) ?_
          refine AllReadyH.cons rfl (fun K hK => ?_) ?_
          · skip
            go_simp
            refine hK.out _ _ ?_ (fun hH2 => ?_)
            · trivial
            clear hK K hH
            have hH := hH2; clear hH2
            (try simp only [List.getElem_toArray, List.getElem_cons_succ, List.getElem_cons_zero, Act.put, List.setIfInBounds_toArray, List.set_cons_zero, List.set_cons_succ])
            refine wpAnyH_take (i := 9) (v := ?_) rfl (by kernel_rfl) (by kernel_rfl) (by kernel_rfl) (fun _ _ _ h => h) (Or.inl ⟨by rfl, ?_⟩) (by assumption) ?_
            rotate_left; focus (intro w hSw; (try dsimp only at hSw); go_simp; try with_reducible rfl)
            (try simp only [List.getElem_toArray, List.getElem_cons_succ, List.getElem_cons_zero, Act.put, List.setIfInBounds_toArray, List.set_cons_zero, List.set_cons_succ])
            refine wpAnyH_ready (rs := [5]) (by kernel_rfl) (by simp) ?_
            refine AllReadyH.cons rfl (fun K hK => ?_) ?_
            · skip
              go_simp
              go_at_call 31
              (with_reducible refine (P31.out _ (by exact b30)).mono ?_)
              rintro e u31 ⟨qa, qc, rfl, b31, r31⟩
              have cA2 := fun o => (b31.cell (p := ⟨w.heap.size, o, none⟩) (by have := b30.size; show w.heap.size < _; exact Nat.lt_of_lt_of_le hl0 this)).trans (cA o)
              refine hK.out _ _ ?_ (fun hH2 => ?_)
              · trivial
              clear hK K hH
              have hH := hH2; clear hH2
              (try simp only [List.getElem_toArray, List.getElem_cons_succ, List.getElem_cons_zero, Act.put, List.setIfInBounds_toArray, List.set_cons_zero, List.set_cons_succ])
              refine wpAnyH_ready (rs := [8]) (by kernel_rfl) (by simp) ?_
              refine AllReadyH.cons rfl (fun K hK => ?_) ?_
              · skip
                go_simp
                go_at_call 32
                (with_reducible refine (P32.out _ (by exact Below.trans b30 (b31.mono b30.size))).mono ?_)
                rintro e u32 ⟨ka, kc, rfl, b32, r32⟩
                have hb32 := Below.trans b30 ((b31.trans (b32.mono b31.size)).mono b30.size)
                have y32 := (hb32.block _ hl0).trans H0.out
                have cB := cells_of y32
                have fB := cells_free y32
                have cB4 : ∀ u, (u32.setCell ⟨w.heap.size, 3, none⟩ u).cell? ⟨w.heap.size, 4, none⟩ = some (.slice vqa vql vqc) := fun u => (cell_set_ne _ _ _ _ _ _ (Or.inr (by omega))).trans (cB 4)
                have cB6 : ∀ u u', ((u32.setCell ⟨w.heap.size, 3, none⟩ u).setCell ⟨w.heap.size, 4, none⟩ u').cell? ⟨w.heap.size, 6, none⟩ = some (.slice vka vkl vkc) := fun u u' => (cell_set_ne _ _ _ _ _ _ (Or.inr (by omega))).trans ((cell_set_ne _ _ _ _ _ _ (Or.inr (by omega))).trans (cB 6))
                refine hK.out _ _ ?_ (fun hH2 => ?_)
                · trivial
                clear hK K hH
                have hH := hH2; clear hH2
                (try simp only [List.getElem_toArray, List.getElem_cons_succ, List.getElem_cons_zero, Act.put, List.setIfInBounds_toArray, List.set_cons_zero, List.set_cons_succ])
                refine wpAnyH_ready (rs := [10]) (by kernel_rfl) (by simp) ?_
                refine AllReadyH.cons rfl (fun K hK => ?_) ?_
                · skip
                  go_simp
                  refine hK.out _ _ ?_ (fun hH2 => ?_)
                  · trivial
                  clear hK K hH
                  have hH := hH2; clear hH2
                  (try simp only [List.getElem_toArray, List.getElem_cons_succ, List.getElem_cons_zero, Act.put, List.setIfInBounds_toArray, List.set_cons_zero, List.set_cons_succ])
                  refine wpAnyH_take (i := 11) (v := ?_) rfl (by kernel_rfl) (by kernel_rfl) (by kernel_rfl) (fun _ _ _ h => h) (Or.inl ⟨by rfl, ?_⟩) (by assumption) ?_
                  rotate_left; focus (intro w hSw; (try dsimp only at hSw); go_simp; try with_reducible rfl)
                  (try simp only [List.getElem_toArray, List.getElem_cons_succ, List.getElem_cons_zero, Act.put, List.setIfInBounds_toArray, List.set_cons_zero, List.set_cons_succ])
                  refine wpAnyH_ready (rs := [12]) (by kernel_rfl) (by simp) ?_
                  refine AllReadyH.cons rfl (fun K hK => ?_) ?_
                  · skip
                    go_simp
                    refine hK.out _ _ ?_ (fun hH2 => ?_)
                    · trivial
                    clear hK K hH
                    have hH := hH2; clear hH2
                    (try simp only [List.getElem_toArray, List.getElem_cons_succ, List.getElem_cons_zero, Act.put, List.setIfInBounds_toArray, List.set_cons_zero, List.set_cons_succ])
                    refine wpAnyH_take (i := 13) (v := ?_) rfl (by kernel_rfl) (by kernel_rfl) (by kernel_rfl) (fun _ _ _ h => h) (Or.inl ⟨by rfl, ?_⟩) (by assumption) ?_
                    rotate_left; focus (intro w hSw; (try dsimp only at hSw); go_simp; try with_reducible rfl)
                    (try simp only [List.getElem_toArray, List.getElem_cons_succ, List.getElem_cons_zero, Act.put, List.setIfInBounds_toArray, List.set_cons_zero, List.set_cons_succ])
                    refine wpAnyH_ready (rs := [14]) (by kernel_rfl) (by simp) ?_
                    refine AllReadyH.cons rfl (fun K hK => ?_) ?_
                    · skip
                      go_simp
                      refine hK.out _ _ ?_ (fun hH2 => ?_)
                      · trivial
                      clear hK K hH
                      have hH := hH2; clear hH2
                      (try simp only [List.getElem_toArray, List.getElem_cons_succ, List.getElem_cons_zero, Act.put, List.setIfInBounds_toArray, List.set_cons_zero, List.set_cons_succ])
                      refine wpAnyH_done (by kernel_rfl) ?_ _
                      clear hH
                      have HF := Lib.hid (c1_of (w := w) (lo := w.heap.size + 2) (vop := vop) (vnum := vnum) (vtx := vtx) (vopn := vopn) (pc := pc) (qc := qc) (kc := kc) hb1 (Nat.le_refl _) (by omega) H0.out H1.out b30 r30 b31 r31 b32 r32)
                      clear b30 r30 b31 r31 b32 r32 cA cA2 hb32 y32 cB fB cB4 cB6
                      go_wp2_with fail
                      go_meet
                      case rel => exact ⟨pa, pc, qa, qc, ka, kc, HF.out⟩
                    exact AllReadyH.nil
                  exact AllReadyH.nil
                exact AllReadyH.nil
              exact AllReadyH.nil
            exact AllReadyH.nil
          exact AllReadyH.nil
        refine AllReadyH.cons rfl (fun K hK => ?_) ?_
        · skip
          go_simp
          refine hK.out _ _ ?_ (fun hH2 => ?_)
          · trivial
          clear hK K hH
          have hH := hH2; clear hH2
          (try simp only [List.getElem_toArray, List.getElem_cons_succ, List.getElem_cons_zero, Act.put, List.setIfInBounds_toArray, List.set_cons_zero, List.set_cons_succ])
          refine wpAnyH_ready (rs := [2]) (by kernel_rfl) (by simp) ?_
          refine AllReadyH.cons rfl (fun K hK => ?_) ?_
          · skip
            go_simp
            go_at_call 30
            (with_reducible refine (P30.out _ (by exact Below.drew (Below.refl _ _))).mono ?_)
            rintro e u30 ⟨pa, pc, rfl, b30, r30⟩
            replace b30 : Below w1.heap.size w1 u30 := (Below.refl _ _).drew.trans b30
            have cA := fun o => (b30.cell (p := ⟨w.heap.size, o, none⟩) (by show w.heap.size < _; exact hl0)).trans (c1 o)
            refine hK.out _ _ ?_ (fun hH2 => ?_)
            · trivial
            clear hK K hH
            have hH := hH2; clear hH2
            (try simp only [List.getElem_toArray, List.getElem_cons_succ, List.getElem_cons_zero, Act.put, List.setIfInBounds_toArray, List.set_cons_zero, List.set_cons_succ])
            refine wpAnyH_take (i := 9) (v := ?_) rfl (by kernel_rfl) (by kernel_rfl) (by kernel_rfl) (fun _ _ _ h => h) (Or.inl ⟨by rfl, ?_⟩) (by assumption) ?_
            rotate_left; focus (intro w hSw; (try dsimp only at hSw); go_simp; try with_reducible rfl)
            (try simp only [List.getElem_toArray, List.getElem_cons_succ, List.getElem_cons_zero, Act.put, List.setIfInBounds_toArray, List.set_cons_zero, List.set_cons_succ])
            refine wpAnyH_ready (rs := [5]) (by kernel_rfl) (by simp) ?_
            refine AllReadyH.cons rfl (fun K hK => ?_) ?_
            · skip
              go_simp
              go_at_call 31
              (with_reducible refine (P31.out _ (by exact b30)).mono ?_)
              rintro e u31 ⟨qa, qc, rfl, b31, r31⟩
              have cA2 := fun o => (b31.cell (p := ⟨w.heap.size, o, none⟩) (by have := b30.size; show w.heap.size < _; exact Nat.lt_of_lt_of_le hl0 this)).trans (cA o)
              refine hK.out _ _ ?_ (fun hH2 => ?_)
              · trivial
              clear hK K hH
              have hH := hH2; clear hH2
              (try simp only [List.getElem_toArray, List.getElem_cons_succ, List.getElem_cons_zero, Act.put, List.setIfInBounds_toArray, List.set_cons_zero, List.set_cons_succ])
              refine wpAnyH_ready (rs := [8]) (by kernel_rfl) (by simp) ?_
              refine AllReadyH.cons rfl (fun K hK => ?_) ?_
              · skip
                go_simp
                go_at_call 32
                (with_reducible refine (P32.out _ (by exact Below.trans b30 (b31.mono b30.size))).mono ?_)
                rintro e u32 ⟨ka, kc, rfl, b32, r32⟩
                have hb32 := Below.trans b30 ((b31.trans (b32.mono b31.size)).mono b30.size)
                have y32 := (hb32.block _ hl0).trans H0.out
                have cB := cells_of y32
                have fB := cells_free y32
                have cB4 : ∀ u, (u32.setCell ⟨w.heap.size, 3, none⟩ u).cell? ⟨w.heap.size, 4, none⟩ = some (.slice vqa vql vqc) := fun u => (cell_set_ne _ _ _ _ _ _ (Or.inr (by omega))).trans (cB 4)
                have cB6 : ∀ u u', ((u32.setCell ⟨w.heap.size, 3, none⟩ u).setCell ⟨w.heap.size, 4, none⟩ u').cell? ⟨w.heap.size, 6, none⟩ = some (.slice vka vkl vkc) := fun u u' => (cell_set_ne _ _ _ _ _ _ (Or.inr (by omega))).trans ((cell_set_ne _ _ _ _ _ _ (Or.inr (by omega))).trans (cB 6))
                refine hK.out _ _ ?_ (fun hH2 => ?_)
                · trivial
                clear hK K hH
                have hH := hH2; clear hH2
                (try simp only [List.getElem_toArray, List.getElem_cons_succ, List.getElem_cons_zero, Act.put, List.setIfInBounds_toArray, List.set_cons_zero, List.set_cons_succ])
                refine wpAnyH_ready (rs := [10]) (by kernel_rfl) (by simp) ?_
                refine AllReadyH.cons rfl (fun K hK => ?_) ?_
                · skip
                  go_simp
                  refine hK.out _ _ ?_ (fun hH2 => ?_)
                  · trivial
                  clear hK K hH
                  have hH := hH2; clear hH2
                  (try simp only [List.getElem_toArray, List.getElem_cons_succ, List.getElem_cons_zero, Act.put, List.setIfInBounds_toArray, List.set_cons_zero, List.set_cons_succ])
                  refine wpAnyH_take (i := 11) (v := ?_) rfl (by kernel_rfl) (by kernel_rfl) (by kernel_rfl) (fun _ _ _ h => h) (Or.inl ⟨by rfl, ?_⟩) (by assumption) ?_
                  rotate_left; focus (intro w hSw; (try dsimp only at hSw); go_simp; try with_reducible rfl)
                  (try simp only [List.getElem_toArray, List.getElem_cons_succ, List.getElem_cons_zero, Act.put, List.setIfInBounds_toArray, List.set_cons_zero, List.set_cons_succ])
                  refine wpAnyH_ready (rs := [12]) (by kernel_rfl) (by simp) ?_
                  refine AllReadyH.cons rfl (fun K hK => ?_) ?_
                  · skip
                    go_simp
                    refine hK.out _ _ ?_ (fun hH2 => ?_)
                    · trivial
                    clear hK K hH
                    have hH := hH2; clear hH2
                    (try simp only [List.getElem_toArray, List.getElem_cons_succ, List.getElem_cons_zero, Act.put, List.setIfInBounds_toArray, List.set_cons_zero, List.set_cons_succ])
                    refine wpAnyH_take (i := 13) (v := ?_) rfl (by kernel_rfl) (by kernel_rfl) (by kernel_rfl) (fun _ _ _ h => h) (Or.inl ⟨by rfl, ?_⟩) (by assumption) ?_
                    rotate_left; focus (intro w hSw; (try dsimp only at hSw); go_simp; try with_reducible rfl)
                    (try simp only [List.getElem_toArray, List.getElem_cons_succ, List.getElem_cons_zero, Act.put, List.setIfInBounds_toArray, List.set_cons_zero, List.set_cons_succ])
                    refine wpAnyH_ready (rs := [14]) (by kernel_rfl) (by simp) ?_
                    refine AllReadyH.cons rfl (fun K hK => ?_) ?_
                    · skip
                      go_simp
                      refine hK.out _ _ ?_ (fun hH2 => ?_)
                      · trivial
                      clear hK K hH
                      have hH := hH2; clear hH2
                      (try simp only [List.getElem_toArray, List.getElem_cons_succ, List.getElem_cons_zero, Act.put, List.setIfInBounds_toArray, List.set_cons_zero, List.set_cons_succ])
                      refine wpAnyH_done (by kernel_rfl) ?_ _
                      clear hH
                      have HF := Lib.hid (c1_of (w := w) (lo := w.heap.size + 2) (vop := vop) (vnum := vnum) (vtx := vtx) (vopn := vopn) (pc := pc) (qc := qc) (kc := kc) hb1 (Nat.le_refl _) (by omega) H0.out H1.out b30 r30 b31 r31 b32 r32)
                      clear b30 r30 b31 r31 b32 r32 cA cA2 hb32 y32 cB fB cB4 cB6
                      go_wp2_with fail
                      go_meet
                      case rel => exact ⟨pa, pc, qa, qc, ka, kc, HF.out⟩
                    exact AllReadyH.nil
                  exact AllReadyH.nil
                exact AllReadyH.nil
              exact AllReadyH.nil
            exact AllReadyH.nil
          exact AllReadyH.nil
        exact AllReadyH.nil
      refine AllReadyH.cons rfl (fun K hK => ?_) ?_
      · skip
        go_simp
        refine hK.out _ _ ?_ (fun hH2 => ?_)
        · trivial
        clear hK K hH
        have hH := hH2; clear hH2
        (try simp only [List.getElem_toArray, List.getElem_cons_succ, List.getElem_cons_zero, Act.put, List.setIfInBounds_toArray, List.set_cons_zero, List.set_cons_succ])
        refine wpAnyH_ready (rs := [1]) (by kernel_rfl) (by simp) ?_
        refine AllReadyH.cons rfl (fun K hK => ?_) ?_
        · skip
          go_simp
          refine hK.out _ _ ?_ (fun hH2 => ?_)
          · trivial
          clear hK K hH
          have hH := hH2; clear hH2
          (try simp only [List.getElem_toArray, List.getElem_cons_succ, List.getElem_cons_zero, Act.put, List.setIfInBounds_toArray, List.set_cons_zero, List.set_cons_succ])
          refine wpAnyH_ready (rs := [2]) (by kernel_rfl) (by simp) ?_
          refine AllReadyH.cons rfl (fun K hK => ?_) ?_
          · skip
            go_simp
            go_at_call 30
            (with_reducible refine (P30.out _ (by exact Below.drew (Below.refl _ _))).mono ?_)
            rintro e u30 ⟨pa, pc, rfl, b30, r30⟩
            replace b30 : Below w1.heap.size w1 u30 := (Below.refl _ _).drew.trans b30
            have cA := fun o => (b30.cell (p := ⟨w.heap.size, o, none⟩) (by show w.heap.size < _; exact hl0)).trans (c1 o)
            refine hK.out _ _ ?_ (fun hH2 => ?_)
            · trivial
            clear hK K hH
            have hH := hH2; clear hH2
            (try simp only [List.getElem_toArray, List.getElem_cons_succ, List.getElem_cons_zero, Act.put, List.setIfInBounds_toArray, List.set_cons_zero, List.set_cons_succ])
            refine wpAnyH_take (i := 9) (v := ?_) rfl (by kernel_rfl) (by kernel_rfl) (by kernel_rfl) (fun _ _ _ h => h) (Or.inl ⟨by rfl, ?_⟩) (by assumption) ?_
            rotate_left; focus (intro w hSw; (try dsimp only at hSw); go_simp; try with_reducible rfl)
            (try simp only [List.getElem_toArray, List.getElem_cons_succ, List.getElem_cons_zero, Act.put, List.setIfInBounds_toArray, List.set_cons_zero, List.set_cons_succ])
            refine wpAnyH_ready (rs := [5]) (by kernel_rfl) (by simp) ?_
            refine AllReadyH.cons rfl (fun K hK => ?_) ?_
            · skip
              go_simp
              go_at_call 31
              (with_reducible refine (P31.out _ (by exact b30)).mono ?_)
              rintro e u31 ⟨qa, qc, rfl, b31, r31⟩
              have cA2 := fun o => (b31.cell (p := ⟨w.heap.size, o, none⟩) (by have := b30.size; show w.heap.size < _; exact Nat.lt_of_lt_of_le hl0 this)).trans (cA o)
              refine hK.out _ _ ?_ (fun hH2 => ?_)
              · trivial
              clear hK K hH
              have hH := hH2; clear hH2
              (try simp only [List.getElem_toArray, List.getElem_cons_succ, List.getElem_cons_zero, Act.put, List.setIfInBounds_toArray, List.set_cons_zero, List.set_cons_succ])
              refine wpAnyH_ready (rs := [8]) (by kernel_rfl) (by simp) ?_
              refine AllReadyH.cons rfl (fun K hK => ?_) ?_
              · skip
                go_simp
                go_at_call 32
                (with_reducible refine (P32.out _ (by exact Below.trans b30 (b31.mono b30.size))).mono ?_)
                rintro e u32 ⟨ka, kc, rfl, b32, r32⟩
                have hb32 := Below.trans b30 ((b31.trans (b32.mono b31.size)).mono b30.size)
                have y32 := (hb32.block _ hl0).trans H0.out
                have cB := cells_of y32
                have fB := cells_free y32
                have cB4 : ∀ u, (u32.setCell ⟨w.heap.size, 3, none⟩ u).cell? ⟨w.heap.size, 4, none⟩ = some (.slice vqa vql vqc) := fun u => (cell_set_ne _ _ _ _ _ _ (Or.inr (by omega))).trans (cB 4)
                have cB6 : ∀ u u', ((u32.setCell ⟨w.heap.size, 3, none⟩ u).setCell ⟨w.heap.size, 4, none⟩ u').cell? ⟨w.heap.size, 6, none⟩ = some (.slice vka vkl vkc) := fun u u' => (cell_set_ne _ _ _ _ _ _ (Or.inr (by omega))).trans ((cell_set_ne _ _ _ _ _ _ (Or.inr (by omega))).trans (cB 6))
                refine hK.out _ _ ?_ (fun hH2 => ?_)
                · trivial
                clear hK K hH
                have hH := hH2; clear hH2
                (try simp only [List.getElem_toArray, List.getElem_cons_succ, List.getElem_cons_zero, Act.put, List.setIfInBounds_toArray, List.set_cons_zero, List.set_cons_succ])
                refine wpAnyH_ready (rs := [10]) (by kernel_rfl) (by simp) ?_
                refine AllReadyH.cons rfl (fun K hK => ?_) ?_
                · skip
                  go_simp
                  refine hK.out _ _ ?_ (fun hH2 => ?_)
                  · trivial
                  clear hK K hH
                  have hH := hH2; clear hH2
                  (try simp only [List.getElem_toArray, List.getElem_cons_succ, List.getElem_cons_zero, Act.put, List.setIfInBounds_toArray, List.set_cons_zero, List.set_cons_succ])
                  refine wpAnyH_take (i := 11) (v := ?_) rfl (by kernel_rfl) (by kernel_rfl) (by kernel_rfl) (fun _ _ _ h => h) (Or.inl ⟨by rfl, ?_⟩) (by assumption) ?_
                  rotate_left; focus (intro w hSw; (try dsimp only at hSw); go_simp; try with_reducible rfl)
                  (try simp only [List.getElem_toArray, List.getElem_cons_succ, List.getElem_cons_zero, Act.put, List.setIfInBounds_toArray, List.set_cons_zero, List.set_cons_succ])
                  refine wpAnyH_ready (rs := [12]) (by kernel_rfl) (by simp) ?_
                  refine AllReadyH.cons rfl (fun K hK => ?_) ?_
                  · skip
                    go_simp
                    refine hK.out _ _ ?_ (fun hH2 => ?_)
                    · trivial
                    clear hK K hH
                    have hH := hH2; clear hH2
                    (try simp only [List.getElem_toArray, List.getElem_cons_succ, List.getElem_cons_zero, Act.put, List.setIfInBounds_toArray, List.set_cons_zero, List.set_cons_succ])
                    refine wpAnyH_take (i := 13) (v := ?_) rfl (by kernel_rfl) (by kernel_rfl) (by kernel_rfl) (fun _ _ _ h => h) (Or.inl ⟨by rfl, ?_⟩) (by assumption) ?_
                    rotate_left; focus (intro w hSw; (try dsimp only at hSw); go_simp; try with_reducible rfl)
                    (try simp only [List.getElem_toArray, List.getElem_cons_succ, List.getElem_cons_zero, Act.put, List.setIfInBounds_toArray, List.set_cons_zero, List.set_cons_succ])
                    refine wpAnyH_ready (rs := [14]) (by kernel_rfl) (by simp) ?_
                    refine AllReadyH.cons rfl (fun K hK => ?_) ?_
                    · skip
                      go_simp
                      refine hK.out _ _ ?_ (fun hH2 => ?_)
                      · trivial
                      clear hK K hH
                      have hH := hH2; clear hH2
                      (try simp only [List.getElem_toArray, List.getElem_cons_succ, List.getElem_cons_zero, Act.put, List.setIfInBounds_toArray, List.set_cons_zero, List.set_cons_succ])
                      refine wpAnyH_done (by kernel_rfl) ?_ _
                      clear hH
                      have HF := Lib.hid (c1_of (w := w) (lo := w.heap.size + 2) (vop := vop) (vnum := vnum) (vtx := vtx) (vopn := vopn) (pc := pc) (qc := qc) (kc := kc) hb1 (Nat.le_refl _) (by omega) H0.out H1.out b30 r30 b31 r31 b32 r32)
                      clear b30 r30 b31 r31 b32 r32 cA cA2 hb32 y32 cB fB cB4 cB6
                      go_wp2_with fail
                      go_meet
                      case rel => exact ⟨pa, pc, qa, qc, ka, kc, HF.out⟩
                    exact AllReadyH.nil
                  exact AllReadyH.nil
                exact AllReadyH.nil
              exact AllReadyH.nil
            exact AllReadyH.nil
          exact AllReadyH.nil
        exact AllReadyH.nil
      exact AllReadyH.nil
    exact AllReadyH.nil
  case rest =>
    obtain ⟨pa, pc, qa, qc, ka, kc, hC⟩ := hcut
    have hwc : w.heap.size + 1 < wc.heap.size := lt_of_block hC.res
    obtain ⟨h2, hh2, hn2, hq2⟩ : ∃ h2, w.heap.size + 2 ≤ h2 ∧ (vql = 0 → wc.heap.size ≤ h2) ∧ (0 < vql → qa = some ⟨h2, 0, none⟩ ∧ blk wc 46 h2 ∧ ∀ j u, (pcells qs)[j]? = some u → wc.cell? ⟨h2, j, none⟩ = some u) := by
      rcases Nat.eq_zero_or_pos vql with h | h
      · exact ⟨wc.heap.size, by omega, fun _ => Nat.le_refl _, fun h' => by omega⟩
      · obtain ⟨g, e, hg, hb, hc⟩ := hC.rq h
        exact ⟨g, hg, fun h' => by omega, fun _ => ⟨e, hb, hc⟩⟩
    have hst2 : 0 < vql → InP wc wc.heap.size B n h2 0 x.2.2.1 := fun hp => by
      obtain ⟨e, hb, hc⟩ := hq2 hp
      intro i hi
      have hiq : i < qs.length := by rw [HLEN.out.1]; exact hi
      have hI := HQI.out i hiq hi
      refine ⟨?_, qs[i].2, EAt.of_cells (fun j hj => ?_), fun h => by omega, fun _ => ExIn.kept (hC.bel.mono hB) n _ _ hI.2⟩
      · rw [← hI.1]
        exact hc (i * 8) _ (by have h := pcells_at qs i hiq 0 (by omega); rw [Nat.add_zero] at h; rw [h]; rfl)
      · have h := pcells_at qs i hiq (j + 1) (by omega)
        rw [List.getElem?_cons_succ] at h
        have e2 : qs[i].2.cells[j]? = some (qs[i].2.cells[j]'(by show j < 7; omega)) := List.getElem?_eq_getElem _
        rw [e2] at h ⊢
        have h3 := hc (i * 8 + (j + 1)) _ h
        rw [show i * 8 + 1 + j = i * 8 + (j + 1) from by omega]
        exact h3
    have HC := Lib.hid hC
    have HQ2 := Lib.hid hq2
    have HB2L : Hid (0 < vql → h2 < wc.heap.size) := Lib.hid (fun hp => (hq2 hp).2.1.lt)
    have HN2 := Lib.hid hn2
    have y0 := cells_of hC.box
    clear hC hq2 hn2 HQI P30 P31 P32 H0 H1
    go_wp2
    go_loopw [22] (fun i wr => ∃ k : Nat, k ≤ vql ∧ i = .int .i64 k ∧ PL w wc h2 wr ∧ Hid (0 < vql → blk wr 46 h2 ∧ InP wr wc.heap.size B n h2 k x.2.2.1)) (fun i _ => vql - (intOf i).toNat)
    case atStart => exact ⟨0, Nat.zero_le _, rfl, ⟨HC.out.bel, Nat.le_refl _, fun _ _ _ => rfl⟩, Lib.hid (fun hp => ⟨(HQ2.out hp).2.1, hst2 hp⟩)⟩
    case round =>
      obtain ⟨k, hk, rfl, hPL, hIn⟩ := hrel
      clear hst2 y0
      have hBX := (hPL.but _ (by omega) (by omega)).trans HC.out.box
      have hsz := hPL.size
      have hwW := hPL.bel.size
      have cX := cells_of hBX
      have HPL := Lib.hid hPL
      clear hPL
      by_cases hlt : k < vql
      · obtain ⟨rfl, -, -⟩ := HQ2.out (by omega)
        have hkx : k < x.2.2.1.length := by have := HXP.out.2.2.2.2.2.2.1; omega
        obtain ⟨hblk, hI⟩ := hIn.out (by omega)
        obtain ⟨c0, v1, hE, -, hold⟩ := hI k hkx
        obtain ⟨d0, d1, d2, d3, d4, d5, d6⟩ := id hE
        have i1 : (0 : Int) ≤ (k : Int) := by omega
        have i2 : (k : Int) < (vql : Int) := by omega
        have hsk : SmallE n (d - 1) x.2.2.1[k].2 := (HSM.out.2.2.2.2.2.2.1 k hkx).2
        have HOLD := Lib.hid (hold (Nat.le_refl _))
        have HIN := Lib.hid hI
        have HBLK := Lib.hid hblk
        have HSK := Lib.hid hsk
        clear hE hold hI hblk hsk
        go_wp2
        have nP := new_cells wr #[.string x.2.2.1[k].1, .int .i64 v1.op, .int .i64 v1.num, .string v1.tx, .slice v1.pa v1.pl v1.pc, .slice v1.qa v1.ql v1.qc, .bool v1.opn, .slice v1.ka v1.kl v1.kc] 46
        have bP := bel1 wr (.cells #[.string x.2.2.1[k].1, .int .i64 v1.op, .int .i64 v1.num, .string v1.tx, .slice v1.pa v1.pl v1.pc, .slice v1.qa v1.ql v1.qc, .bool v1.opn, .slice v1.ka v1.kl v1.kc] 46)
        generalize wr.alloc (.cells #[.string x.2.2.1[k].1, .int .i64 v1.op, .int .i64 v1.num, .string v1.tx, .slice v1.pa v1.pl v1.pc, .slice v1.qa v1.ql v1.qc, .bool v1.opn, .slice v1.ka v1.kl v1.kc] 46) = w5 at nP bP ⊢
        have hBX5 := (bP.block _ (lt_of_block hBX)).trans hBX
        have hs5 := bP.size
        have HCk : Hid (∀ U, Below w5.heap.size w5 U → Calls Tryd.prog 15 #[.agg #[.int .i64 v1.op, .int .i64 v1.num, .string v1.tx, .slice v1.pa v1.pl v1.pc, .slice v1.qa v1.ql v1.qc, .bool v1.opn, .slice v1.ka v1.kl v1.kc]] U (CopyPost n x.2.2.1[k].2 U)) := Lib.hid (fun U hU => HD.out U B v1 _ (d - 1) (by have := hU.size; omega) HSK.out (ExIn.kept ((bP.trans (hU.mono hs5)).mono (by omega)) n _ _ HOLD.out))
        have SB0 : SX w.heap.size #[.int .i64 vop, .int .i64 vnum, .string vtx, .slice pa vpl pc, .slice (some ⟨h2, 0, none⟩) vql qc, .bool vopn, .slice ka vkl kc] w5 := SX.of hBX5
        have SP0 : SX wr.heap.size #[.string x.2.2.1[k].1, .int .i64 v1.op, .int .i64 v1.num, .string v1.tx, .slice v1.pa v1.pl v1.pc, .slice v1.qa v1.ql v1.qc, .bool v1.opn, .slice v1.ka v1.kl v1.kc] w5 := SX.of nP
        refine wp_region_held_drew (S := (fun U => SX w.heap.size #[.int .i64 vop, .int .i64 vnum, .string vtx, .slice pa vpl pc, .slice (some ⟨h2, 0, none⟩) vql qc, .bool vopn, .slice ka vkl kc] U ∧ SX wr.heap.size #[.string x.2.2.1[k].1, .int .i64 v1.op, .int .i64 v1.num, .string v1.tx, .slice v1.pa v1.pl v1.pc, .slice v1.qa v1.ql v1.qc, .bool v1.opn, .slice v1.ka v1.kl v1.kc] U)) (by kernel_rfl) ?_ (fun hH => ?_)
        · exact ⟨SX.drew SB0, SX.drew SP0⟩
        refine wpAnyH_take (i := 0) (v := ?_) rfl (by kernel_rfl) (by kernel_rfl) (by kernel_rfl) (fun _ _ _ h => h) (Or.inl ⟨by rfl, ?_⟩) (by assumption) ?_
        rotate_left; focus (intro w hSw; (try dsimp only at hSw); go_simp; try with_reducible rfl)
        (try simp only [List.getElem_toArray, List.getElem_cons_succ, List.getElem_cons_zero, Act.put, List.setIfInBounds_toArray, List.set_cons_zero, List.set_cons_succ])
        refine wpAnyH_take (i := 1) (v := ?_) rfl (by kernel_rfl) (by kernel_rfl) (by kernel_rfl) (fun _ _ _ h => h) (Or.inl ⟨by rfl, ?_⟩) (by assumption) ?_
        rotate_left; focus (intro w hSw; (try dsimp only at hSw); go_simp; try with_reducible rfl)
        (try simp only [List.getElem_toArray, List.getElem_cons_succ, List.getElem_cons_zero, Act.put, List.setIfInBounds_toArray, List.set_cons_zero, List.set_cons_succ])
        refine wpAnyH_take (i := 2) (v := ?_) rfl (by kernel_rfl) (by kernel_rfl) (by kernel_rfl) (fun _ _ _ h => h) (Or.inl ⟨by rfl, ?_⟩) (by assumption) ?_
        rotate_left; focus (intro w hSw; (try dsimp only at hSw); go_simp; try with_reducible rfl)
        (try simp only [List.getElem_toArray, List.getElem_cons_succ, List.getElem_cons_zero, Act.put, List.setIfInBounds_toArray, List.set_cons_zero, List.set_cons_succ])
        refine wpAnyH_take (i := 3) (v := ?_) rfl (by kernel_rfl) (by kernel_rfl) (by kernel_rfl) (fun _ _ _ h => h) (Or.inl ⟨by rfl, ?_⟩) (by assumption) ?_
        rotate_left; focus (intro w hSw; (try dsimp only at hSw); go_simp; try with_reducible rfl)
        (try simp only [List.getElem_toArray, List.getElem_cons_succ, List.getElem_cons_zero, Act.put, List.setIfInBounds_toArray, List.set_cons_zero, List.set_cons_succ])
        refine wpAnyH_take (i := 4) (v := ?_) rfl (by kernel_rfl) (by kernel_rfl) (by kernel_rfl) (fun _ _ _ h => h) (Or.inl ⟨by rfl, ?_⟩) (by assumption) ?_
        rotate_left; focus (intro w hSw; (try dsimp only at hSw); go_simp; try with_reducible rfl)
        (try simp only [List.getElem_toArray, List.getElem_cons_succ, List.getElem_cons_zero, Act.put, List.setIfInBounds_toArray, List.set_cons_zero, List.set_cons_succ])
        refine wpAnyH_ready (rs := [5]) (by kernel_rfl) (by simp) ?_
        refine AllReadyH.cons rfl (fun K hK => ?_) ?_
        · skip
          go_simp
          go_at_call 15
          (with_reducible refine (HCk.out _ (by exact Below.drew (Below.refl _ _))).mono ?_)
          rintro e wq ⟨vn, rfl, hbq0, hown⟩
          have hbq : Below w5.heap.size w5 wq := (Below.refl _ _).drew.trans hbq0
          have hbrq : Below wr.heap.size wr wq := bP.trans (hbq.mono hs5)
          have hbk := HBLK.out.below hbrq HBLK.out.lt
          have q0 := (hbrq.cell (p := ⟨h2, k * 8 + 1, none⟩) HBLK.out.lt).trans d0
          have q1 := (hbrq.cell (p := ⟨h2, k * 8 + 1 + 1, none⟩) HBLK.out.lt).trans d1
          have q2 := (hbrq.cell (p := ⟨h2, k * 8 + 1 + 2, none⟩) HBLK.out.lt).trans d2
          have q3 := (hbrq.cell (p := ⟨h2, k * 8 + 1 + 3, none⟩) HBLK.out.lt).trans d3
          have q4 := (hbrq.cell (p := ⟨h2, k * 8 + 1 + 4, none⟩) HBLK.out.lt).trans d4
          have q5 := (hbrq.cell (p := ⟨h2, k * 8 + 1 + 5, none⟩) HBLK.out.lt).trans d5
          have q6 := (hbrq.cell (p := ⟨h2, k * 8 + 1 + 6, none⟩) HBLK.out.lt).trans d6
          have fq := hbk.free
          refine hK.out _ _ ?_ (fun hH2 => ?_)
          · exact ⟨SX.below hH.1 hbq0, SX.below hH.2 hbq0⟩
          clear hK K hH
          have hH := hH2; clear hH2
          (try simp only [List.getElem_toArray, List.getElem_cons_succ, List.getElem_cons_zero, Act.put, List.setIfInBounds_toArray, List.set_cons_zero, List.set_cons_succ])
          refine wpAnyH_take (i := 6) (v := ?_) rfl (by kernel_rfl) (by kernel_rfl) (by kernel_rfl) (fun _ _ _ h => h) (Or.inl ⟨by rfl, ?_⟩) (by assumption) ?_
          rotate_left; focus (intro w hSw; (try dsimp only at hSw); go_simp; try with_reducible rfl)
          (try simp only [List.getElem_toArray, List.getElem_cons_succ, List.getElem_cons_zero, Act.put, List.setIfInBounds_toArray, List.set_cons_zero, List.set_cons_succ])
          refine wpAnyH_take (i := 7) (v := ?_) rfl (by kernel_rfl) (by kernel_rfl) (by kernel_rfl) (fun _ _ _ h => h) (Or.inl ⟨by rfl, ?_⟩) (by assumption) ?_
          rotate_left; focus (intro w hSw; (try dsimp only at hSw); go_simp; try with_reducible rfl)
          (try simp only [List.getElem_toArray, List.getElem_cons_succ, List.getElem_cons_zero, Act.put, List.setIfInBounds_toArray, List.set_cons_zero, List.set_cons_succ])
          refine wpAnyH_ready (rs := [8]) (by kernel_rfl) (by simp) ?_
          refine AllReadyH.cons rfl (fun K hK => ?_) ?_
          · skip
            go_simp
            refine hK.out _ _ ?_ (fun hH2 => ?_)
            · exact ⟨SX.st7 (v := vn) (o := k * 8 + 1) hH.1 (by omega), SX.st7 (v := vn) (o := k * 8 + 1) hH.2 (by have := HBLK.out.lt; omega)⟩
            clear hK K hH
            have hH := hH2; clear hH2
            (try simp only [List.getElem_toArray, List.getElem_cons_succ, List.getElem_cons_zero, Act.put, List.setIfInBounds_toArray, List.set_cons_zero, List.set_cons_succ])
            refine wpAnyH_done (by kernel_rfl) ?_ _
            clear hH
            have HF1 := Lib.hid (PL.next (o := k * 8 + 1) (vn := vn) HPL.out hbrq (by omega))
            have HF2 := Lib.hid (inP_next (vn := vn) HIN.out hbrq HBLK.out.lt (by have := HB2L.out (by omega); omega) (by omega) hkx (hown.low (by have : w5.heap.size = w5.drew.heap.size := rfl; omega)))
            have HF3 := Lib.hid (st7_blk (h := h2) (o := k * 8 + 1) (v := vn) hbk)
            clear q0 q1 q2 q3 q4 q5 q6 fq hbk hbrq hbq hbq0 hown
            go_wp2
            go_roundw
            case rel => exact ⟨k + 1, by omega, by go_num, HF1.out, Lib.hid (fun _ => ⟨HF3.out, HF2.out⟩)⟩
            case measure => simp [intOf]; omega
          exact AllReadyH.nil
        exact AllReadyH.nil
      · have hge : (vql : Int) ≤ (k : Int) := by omega
        have hnl : ¬ ((k : Int) < (vql : Int)) := by omega
        have hkq : k = vql := by omega
        obtain ⟨wo, hwo⟩ : ∃ wo, wo = wr := ⟨_, rfl⟩
        subst hwo
        have HIN := Lib.hid (show 0 < vql → blk wo 46 h2 ∧ InP wo wc.heap.size B n h2 vql x.2.2.1 from fun hp => by rw [← hkq]; exact hIn.out hp)
        clear hIn hkq
        obtain ⟨h3, hh3, hn3, hl3, hk3⟩ : ∃ h3, w.heap.size + 2 ≤ h3 ∧ (vkl = 0 → wo.heap.size ≤ h3) ∧ (0 < vkl → h3 < wc.heap.size ∧ h3 ≠ h2) ∧ (0 < vkl → ka = some ⟨h3, 0, none⟩ ∧ blk wo 26 h3 ∧ ∀ j u, (vcells ks)[j]? = some u → wo.cell? ⟨h3, j, none⟩ = some u) := by
          rcases Nat.eq_zero_or_pos vkl with h | h
          · exact ⟨wo.heap.size, by omega, fun _ => Nat.le_refl _, fun h' => by omega, fun h' => by omega⟩
          · obtain ⟨g, e, hg, hb, hc⟩ := HC.out.rk h
            have hne : g ≠ h2 := fun e2 => by
              rcases Nat.eq_zero_or_pos vql with h0 | h0
              · have := HN2.out h0; have := hb.lt; omega
              · have h46 := (HQ2.out h0).2.1
                rw [← e2] at h46
                have := hb.uniq h46
                cases this
            obtain ⟨s1, s2⟩ := HPL.out.same hb hne
            exact ⟨g, hg, fun h' => by omega, fun _ => ⟨hb.lt, hne⟩, fun _ => ⟨e, s2, fun j u hj => (s1 j).trans (hc j u hj)⟩⟩
        have hst3 : 0 < vkl → InK wo wo.heap.size B n h3 0 x.2.2.2 := fun hp => by
          obtain ⟨e, hb, hc⟩ := hk3 hp
          intro i hi
          have hiq : i < ks.length := by rw [HLEN.out.2]; exact hi
          have hI := HKI.out i hiq hi
          refine ⟨ks[i], EAt.of_cells (fun j hj => ?_), fun h => by omega, fun _ => ExIn.kept (HPL.out.bel.mono hB) n _ _ hI⟩
          have h := vcells_at ks i hiq j hj
          have e2 : ks[i].cells[j]? = some (ks[i].cells[j]'(by show j < 7; omega)) := List.getElem?_eq_getElem _
          rw [e2] at h ⊢
          exact hc (i * 7 + j) _ h
        have HK3 := Lib.hid hk3
        have HL3 := Lib.hid hl3
        have HN3 := Lib.hid hn3
        have HPO := Lib.hid HPL.out
        have HB3L : Hid (0 < vkl → h3 < wo.heap.size) := Lib.hid (fun hp => (hk3 hp).2.1.lt)
        have hboxo := hBX
        clear hk3 hl3 hn3 HPL hBX
        go_wp2
        go_loopw [39] (fun i wr => ∃ k : Nat, k ≤ vkl ∧ i = .int .i64 k ∧ PL w wo h3 wr ∧ Hid (0 < vkl → blk wr 26 h3 ∧ InK wr wo.heap.size B n h3 k x.2.2.2)) (fun i _ => vkl - (intOf i).toNat)
        case atStart => exact ⟨0, Nat.zero_le _, rfl, ⟨HPO.out.bel, Nat.le_refl _, fun _ _ _ => rfl⟩, Lib.hid (fun hp => ⟨(HK3.out hp).2.1, hst3 hp⟩)⟩
        case round =>
          obtain ⟨k, hk, rfl, hPL, hIn⟩ := hrel
          clear hst3 cX
          have hBX := (hPL.but _ (lt_of_block hboxo) (by omega)).trans hboxo
          have hsz2 := hPL.size
          have hwW2 := hPL.bel.size
          have cX := cells_of hBX
          have HPL := Lib.hid hPL
          clear hPL
          by_cases hlt2 : k < vkl
          · obtain ⟨rfl, -, -⟩ := HK3.out (by omega)
            have hkx : k < x.2.2.2.length := by have := HXP.out.2.2.2.2.2.2.2.2.1; omega
            obtain ⟨hblk, hI⟩ := hIn.out (by omega)
            obtain ⟨v1, hE, -, hold⟩ := hI k hkx
            obtain ⟨d0, d1, d2, d3, d4, d5, d6⟩ := id hE
            have i1 : (0 : Int) ≤ (k : Int) := by omega
            have i2 : (k : Int) < (vkl : Int) := by omega
            have hsk : SmallE n (d - 1) x.2.2.2[k] := HSM.out.2.2.2.2.2.2.2 k hkx
            have HOLD := Lib.hid (hold (Nat.le_refl _))
            have HIN3 := Lib.hid hI
            have HBLK := Lib.hid hblk
            have HSK := Lib.hid hsk
            clear hE hold hI hblk hsk
            go_wp2
            have nP := new_cells wr #[.int .i64 v1.op, .int .i64 v1.num, .string v1.tx, .slice v1.pa v1.pl v1.pc, .slice v1.qa v1.ql v1.qc, .bool v1.opn, .slice v1.ka v1.kl v1.kc] 26
            have bP := bel1 wr (.cells #[.int .i64 v1.op, .int .i64 v1.num, .string v1.tx, .slice v1.pa v1.pl v1.pc, .slice v1.qa v1.ql v1.qc, .bool v1.opn, .slice v1.ka v1.kl v1.kc] 26)
            generalize wr.alloc (.cells #[.int .i64 v1.op, .int .i64 v1.num, .string v1.tx, .slice v1.pa v1.pl v1.pc, .slice v1.qa v1.ql v1.qc, .bool v1.opn, .slice v1.ka v1.kl v1.kc] 26) = w5 at nP bP ⊢
            have hBX5 := (bP.block _ (lt_of_block hBX)).trans hBX
            have hs5 := bP.size
            have HCk : Hid (∀ U, Below w5.heap.size w5 U → Calls Tryd.prog 15 #[.agg #[.int .i64 v1.op, .int .i64 v1.num, .string v1.tx, .slice v1.pa v1.pl v1.pc, .slice v1.qa v1.ql v1.qc, .bool v1.opn, .slice v1.ka v1.kl v1.kc]] U (CopyPost n x.2.2.2[k] U)) := Lib.hid (fun U hU => HD.out U B v1 _ (d - 1) (by have := hU.size; omega) HSK.out (ExIn.kept ((bP.trans (hU.mono hs5)).mono (by omega)) n _ _ HOLD.out))
            have SB0 : SX w.heap.size #[.int .i64 vop, .int .i64 vnum, .string vtx, .slice pa vpl pc, .slice qa vql qc, .bool vopn, .slice (some ⟨h3, 0, none⟩) vkl kc] w5 := SX.of hBX5
            have SP0 : SX wr.heap.size #[.int .i64 v1.op, .int .i64 v1.num, .string v1.tx, .slice v1.pa v1.pl v1.pc, .slice v1.qa v1.ql v1.qc, .bool v1.opn, .slice v1.ka v1.kl v1.kc] w5 := SX.of nP
            refine wp_region_held_drew (S := (fun U => SX w.heap.size #[.int .i64 vop, .int .i64 vnum, .string vtx, .slice pa vpl pc, .slice qa vql qc, .bool vopn, .slice (some ⟨h3, 0, none⟩) vkl kc] U ∧ SX wr.heap.size #[.int .i64 v1.op, .int .i64 v1.num, .string v1.tx, .slice v1.pa v1.pl v1.pc, .slice v1.qa v1.ql v1.qc, .bool v1.opn, .slice v1.ka v1.kl v1.kc] U)) (by kernel_rfl) ?_ (fun hH => ?_)
            · exact ⟨SX.drew SB0, SX.drew SP0⟩
            refine wpAnyH_take (i := 0) (v := ?_) rfl (by kernel_rfl) (by kernel_rfl) (by kernel_rfl) (fun _ _ _ h => h) (Or.inl ⟨by rfl, ?_⟩) (by assumption) ?_
            rotate_left; focus (intro w hSw; (try dsimp only at hSw); go_simp; try with_reducible rfl)
            (try simp only [List.getElem_toArray, List.getElem_cons_succ, List.getElem_cons_zero, Act.put, List.setIfInBounds_toArray, List.set_cons_zero, List.set_cons_succ])
            refine wpAnyH_take (i := 1) (v := ?_) rfl (by kernel_rfl) (by kernel_rfl) (by kernel_rfl) (fun _ _ _ h => h) (Or.inl ⟨by rfl, ?_⟩) (by assumption) ?_
            rotate_left; focus (intro w hSw; (try dsimp only at hSw); go_simp; try with_reducible rfl)
            (try simp only [List.getElem_toArray, List.getElem_cons_succ, List.getElem_cons_zero, Act.put, List.setIfInBounds_toArray, List.set_cons_zero, List.set_cons_succ])
            refine wpAnyH_take (i := 2) (v := ?_) rfl (by kernel_rfl) (by kernel_rfl) (by kernel_rfl) (fun _ _ _ h => h) (Or.inl ⟨by rfl, ?_⟩) (by assumption) ?_
            rotate_left; focus (intro w hSw; (try dsimp only at hSw); go_simp; try with_reducible rfl)
            (try simp only [List.getElem_toArray, List.getElem_cons_succ, List.getElem_cons_zero, Act.put, List.setIfInBounds_toArray, List.set_cons_zero, List.set_cons_succ])
            refine wpAnyH_take (i := 3) (v := ?_) rfl (by kernel_rfl) (by kernel_rfl) (by kernel_rfl) (fun _ _ _ h => h) (Or.inl ⟨by rfl, ?_⟩) (by assumption) ?_
            rotate_left; focus (intro w hSw; (try dsimp only at hSw); go_simp; try with_reducible rfl)
            (try simp only [List.getElem_toArray, List.getElem_cons_succ, List.getElem_cons_zero, Act.put, List.setIfInBounds_toArray, List.set_cons_zero, List.set_cons_succ])
            refine wpAnyH_ready (rs := [4]) (by kernel_rfl) (by simp) ?_
            refine AllReadyH.cons rfl (fun K hK => ?_) ?_
            · skip
              go_simp
              go_at_call 15
              (with_reducible refine (HCk.out _ (by exact Below.drew (Below.refl _ _))).mono ?_)
              rintro e wq ⟨vn, rfl, hbq0, hown⟩
              have hbq : Below w5.heap.size w5 wq := (Below.refl _ _).drew.trans hbq0
              have hbrq : Below wr.heap.size wr wq := bP.trans (hbq.mono hs5)
              have hbk := HBLK.out.below hbrq HBLK.out.lt
              have q0 := (hbrq.cell (p := ⟨h3, k * 7, none⟩) HBLK.out.lt).trans d0
              have q1 := (hbrq.cell (p := ⟨h3, k * 7 + 1, none⟩) HBLK.out.lt).trans d1
              have q2 := (hbrq.cell (p := ⟨h3, k * 7 + 2, none⟩) HBLK.out.lt).trans d2
              have q3 := (hbrq.cell (p := ⟨h3, k * 7 + 3, none⟩) HBLK.out.lt).trans d3
              have q4 := (hbrq.cell (p := ⟨h3, k * 7 + 4, none⟩) HBLK.out.lt).trans d4
              have q5 := (hbrq.cell (p := ⟨h3, k * 7 + 5, none⟩) HBLK.out.lt).trans d5
              have q6 := (hbrq.cell (p := ⟨h3, k * 7 + 6, none⟩) HBLK.out.lt).trans d6
              have fq := hbk.free
              refine hK.out _ _ ?_ (fun hH2 => ?_)
              · exact ⟨SX.below hH.1 hbq0, SX.below hH.2 hbq0⟩
              clear hK K hH
              have hH := hH2; clear hH2
              (try simp only [List.getElem_toArray, List.getElem_cons_succ, List.getElem_cons_zero, Act.put, List.setIfInBounds_toArray, List.set_cons_zero, List.set_cons_succ])
              refine wpAnyH_take (i := 5) (v := ?_) rfl (by kernel_rfl) (by kernel_rfl) (by kernel_rfl) (fun _ _ _ h => h) (Or.inl ⟨by rfl, ?_⟩) (by assumption) ?_
              rotate_left; focus (intro w hSw; (try dsimp only at hSw); go_simp; try with_reducible rfl)
              (try simp only [List.getElem_toArray, List.getElem_cons_succ, List.getElem_cons_zero, Act.put, List.setIfInBounds_toArray, List.set_cons_zero, List.set_cons_succ])
              refine wpAnyH_ready (rs := [6]) (by kernel_rfl) (by simp) ?_
              refine AllReadyH.cons rfl (fun K hK => ?_) ?_
              · skip
                go_simp
                refine hK.out _ _ ?_ (fun hH2 => ?_)
                · exact ⟨SX.st7 (v := vn) (o := k * 7) hH.1 (by omega), SX.st7 (v := vn) (o := k * 7) hH.2 (by have := HBLK.out.lt; omega)⟩
                clear hK K hH
                have hH := hH2; clear hH2
                (try simp only [List.getElem_toArray, List.getElem_cons_succ, List.getElem_cons_zero, Act.put, List.setIfInBounds_toArray, List.set_cons_zero, List.set_cons_succ])
                refine wpAnyH_done (by kernel_rfl) ?_ _
                clear hH
                have HF1 := Lib.hid (PL.next (o := k * 7) (vn := vn) HPL.out hbrq (by omega))
                have HF2 := Lib.hid (inK_next (vn := vn) HIN3.out hbrq HBLK.out.lt (by have := HB3L.out (by omega); omega) (by omega) hkx (hown.low (by have : w5.heap.size = w5.drew.heap.size := rfl; omega)))
                have HF3 := Lib.hid (st7_blk (h := h3) (o := k * 7) (v := vn) hbk)
                clear q0 q1 q2 q3 q4 q5 q6 fq hbk hbrq hbq hbq0 hown
                go_wp2
                go_roundw
                case rel => exact ⟨k + 1, by omega, by go_num, HF1.out, Lib.hid (fun _ => ⟨HF3.out, HF2.out⟩)⟩
                case measure => simp [intOf]; omega
              exact AllReadyH.nil
            exact AllReadyH.nil
          · have hge2 : (vkl : Int) ≤ (k : Int) := by omega
            have hkq : k = vkl := by omega
            have HK9 := Lib.hid (show 0 < vkl → blk wr 26 h3 ∧ InK wr wo.heap.size B n h3 vkl x.2.2.2 from fun hp => by rw [← hkq]; exact hIn.out hp)
            clear hIn hkq
            have hres := ((HPL.out.but _ (by omega) (by omega)).trans (HPO.out.but _ (by omega) (by omega))).trans HC.out.res
            have cZ := cells_of hres
            have fZ := cells_free hres
            have hE0 : EAt wr (w.heap.size + 1) 0 ⟨0, 0, ⟨#[]⟩, none, 0, 0, none, 0, 0, false, none, 0, 0⟩ := ⟨cZ 0, cZ 1, cZ 2, cZ 3, cZ 4, cZ 5, cZ 6⟩
            have HE9 := Lib.hid (st7_eat (v := ⟨vop, vnum, vtx, pa, vpl, pc, qa, vql, qc, vopn, ka, vkl, kc⟩) hE0)
            have HFIN := Lib.hid (copy_fin (kc := kc) HXP.out HC.out hwc HPO.out HPL.out hh2 hh3 HN2.out HN3.out (fun h => ⟨(HQ2.out h).1, (HQ2.out h).2.1⟩) HIN.out (fun h => ⟨(HK3.out h).1, (HK3.out h).2.1⟩) (fun h => (HL3.out h).1) HK9.out)
            have HBF := Lib.hid (HPL.out.bel.trans (st7_below (h := w.heap.size + 1) (o := 0) (v := ⟨vop, vnum, vtx, pa, vpl, pc, qa, vql, qc, vopn, ka, vkl, kc⟩) (Nat.le_succ _)))
            clear hE0 hres hboxo hBX
            go_wp2
            obtain ⟨e0, e1, e2, e3, e4, e5, e6⟩ := HE9.out
            simp only [st7, Nat.zero_add] at e0 e1 e2 e3 e4 e5 e6
            refine bodyPost_ret (v := .agg #[.int .i64 vop, .int .i64 vnum, .string vtx, .slice pa vpl pc, .slice qa vql qc, .bool vopn, .slice ka vkl kc]) (by simp [results, Tryd.results15, go_sem, e0, e1, e2, e3, e4, e5, e6]) rfl ?_
            exact ⟨⟨vop, vnum, vtx, pa, vpl, pc, qa, vql, qc, vopn, ka, vkl, kc⟩, rfl, HBF.out, HFIN.out⟩
theorem copy_ok : ∀ n, CopyOk n
  | 0 => fun _ _ _ x => x.elim
  | n + 1 => copy_succ n (Lib.hid (copy_ok n))
end Go.Proofs.YtigdibglkejciaaDoor.Ex
