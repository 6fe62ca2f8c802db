/-
  The names that an expression reads: in the program.
-/
import Derived.Test.YtigdibglkejciaaDoorE36
namespace Go.Proofs.YtigdibglkejciaaDoor.Ex
open Go.RowKit Go
set_option linter.unusedSimpArgs false
attribute [local go_sem] Oper.semAt_some

/-- No operation of a region is a defer statement. -/
def noDefer (ops : Array Oper) : Bool := ops.toList.all fun o => match o.op with | .defer _ => false | _ => true
theorem noDefer_spec {ops : Array Oper} (h : noDefer ops = true) {i : Nat} {o : Oper} (ho : ops[i]? = some o) : ∀ c, o.op ≠ .defer c := by
  intro c hc
  have hm : o ∈ ops.toList := Array.mem_toList_iff.2 (Array.mem_of_getElem? ho)
  have := List.all_eq_true.1 h o hm
  rw [hc] at this
  cases this
theorem opsIn_of_ops {n l : Nat} {P : Program} {ops : Array Oper} {Q : Exit → Act → World → Prop} (hQ : ¬ LetsOut Q) (hd : noDefer ops = true) : ∀ (is : List Nat) (a : Act) (w : World), wpOps P ops Q is a w → wpOpsIn (Fence.wide.inRound l) n P ops Q is a w := by
  intro is
  induction is with
  | nil => exact fun a w h => h
  | cons i rest ih =>
    intro a w h
    simp only [wpOps] at h
    simp only [wpOpsIn]
    cases ho : ops[i]? with
    | none => simp only [ho] at h ⊢; exact ih _ _ h
    | some o =>
      simp only [ho] at h ⊢
      split
      · rename_i hw
        simp only [hw, if_true] at h
        rcases h with h | ⟨_, h⟩
        · refine ⟨fun _ _ => trivial, ?_⟩
          rw [Oper.semAt_eq _ _ _ (noDefer_spec hd ho)]
          unfold Oper.wp at h
          generalize (execOp a.eval o).run P w = r at h ⊢
          cases r with
          | ok x w' =>
            cases x with
            | enter f args =>
              refine ⟨fun h => (by cases h), CallsIn.inRound l (callsIn_wide.2 (Calls.mono h ?_))⟩
              rintro (v | ch | _) w'' hh
              · exact ih _ _ hh
              · exact hh
              · exact hh
            | row r args =>
              refine ⟨fun h => (by cases h), fun c cs _ => ?_⟩
              obtain ⟨v, w', r, s⟩ := h c cs
              exact ⟨v, w', ih _ _ r, stepsIn_wide.2 s⟩
            | value v => exact ih _ _ h
            | skip => exact ih _ _ h
            | defer d => exact ih _ _ h
            | _ => exact h.elim
          | halt x w' => cases x <;> exact h
        · exact absurd h hQ
      · rename_i hw
        simp only [hw] at h
        exact ⟨fun _ _ => trivial, ih _ _ h⟩
/-- Only where the region comes to its end. -/
def calmQ (Q : Exit → Act → World → Prop) : Exit → Act → World → Prop
  | .normal, a, w => Q .normal a w
  | _, _, _ => False
theorem calmQ_out {Q : Exit → Act → World → Prop} : ¬ LetsOut (calmQ Q) := fun ⟨_, _, h⟩ => h
theorem calmQ_sub {Q : Exit → Act → World → Prop} : ∀ e a w, calmQ Q e a w → Q e a w
  | .normal, _, _, h => h
  | .ret, _, _, h => h.elim
  | .exit _, _, _, h => h.elim
  | .goto _, _, _, h => h.elim
  | .panic _, _, _, h => h.elim
  | .outgrown, _, _, h => h.elim
theorem calmQ_end {Q : Exit → Act → World → Prop} {a : Act} {w : World} (h : Q .normal a w) : calmQ Q .normal a w := h
theorem wpIn_region_held_round {n l : Nat} {P : Program} {ops : Array Oper} {Q : Exit → Act → World → Prop} {S : World → Prop} {id : Nat} {a : Act} {w : World} (hd : noDefer ops = true) (hm : P.follows .mixedOrders = true) (hS : S w.drew)
    (h : S w.drew → wpAnyH P .any ops (calmQ Q) S ops.size (Array.replicate ops.size false) a w.drew) : (Code.region id ops true).wpIn (Fence.wide.inRound l) n P Q a w :=
  wpIn_mono (wpIn_region_draw fun t => by
    simp only [Region.schedule, hm, Bool.true_or, if_true]
    exact opsIn_of_ops calmQ_out hd _ _ _ (wpAny_sound ops.size t _ a _ (wpAny_of_held _ _ _ _ (h hS)))) calmQ_sub
theorem wpIn_region_held_wide {n : Nat} {P : Program} {ops : Array Oper} {Q : Exit → Act → World → Prop} {S : World → Prop} {id : Nat} {a : Act} {w : World} (hm : P.follows .mixedOrders = true) (hS : S w.drew)
    (h : S w.drew → wpAnyH P .any ops (calmQ Q) S ops.size (Array.replicate ops.size false) a w.drew) : (Code.region id ops true).wpIn Fence.wide n P Q a w :=
  wpIn_mono (wpIn_wide.2 (wp_region_held_drew hm hS h)) calmQ_sub

/-- What the region of the append reads. -/
abbrev SR (xb gp off ob : Nat) (P s : Value) (W : World) : Prop := W.cell? ⟨xb, 3, none⟩ = some P ∧ W.cell? ⟨gp, off, none⟩ = some s ∧ W.frozen? ⟨ob, 0, none⟩ = false
theorem SR.grown {xb gp off ob : Nat} {P s : Value} {A B : World} {row : Option Nat} (h : SR xb gp off ob P s A) (hg : A.grownBy B row) (h1 : xb < A.heap.size) (h2 : gp < A.heap.size) (h3 : ob < A.heap.size) (n1 : some xb ≠ row) (n2 : some gp ≠ row) (n3 : some ob ≠ row) : SR xb gp off ob P s B :=
  ⟨(hg.cell_far ⟨xb, 3, none⟩ h1 n1).trans h.1, (hg.cell_far ⟨gp, off, none⟩ h2 n2).trans h.2.1, (hg.frozen_far ⟨ob, 0, none⟩ h3 n3).trans h.2.2⟩
theorem SR.set {xb gp off ob : Nat} {P s : Value} {A : World} (h : SR xb gp off ob P s A) (h1 : xb < A.heap.size) (h2 : gp < A.heap.size) (n1 : xb ≠ ob) (n2 : gp ≠ ob) (u : Value) : SR xb gp off ob P s (A.setCell ⟨ob, 0, none⟩ u) :=
  ⟨((gset A ob 0 u).cell_far ⟨xb, 3, none⟩ h1 (fun e => n1 (Option.some.inj e))).trans h.1, ((gset A ob 0 u).cell_far ⟨gp, off, none⟩ h2 (fun e => n2 (Option.some.inj e))).trans h.2.1, by rw [World.frozen?_setCell]; exact h.2.2⟩
def aggOf : Value → Array Value
  | .agg c => c
  | _ => #[]
theorem row_kind {W : World} {base size n : Nat} {e : TypeId} {u : Value} {xs : List Value} (h : W.ownsRow base e size u n xs) : ∀ r, u.ownBlock = some r → base ≤ r ∧ ∃ c f, W.heap[r]? = some (.cells c e f) := by
  intro r hr
  obtain ⟨_, ⟨e1, _⟩ | ⟨g, cap, cur, e1, hb, hh, _⟩⟩ := h
  · subst e1; cases hr
  · subst e1; cases hr; exact ⟨hb, _, _, hh⟩
theorem row_far {W : World} {base size n B : Nat} {e : TypeId} {u : Value} {xs : List Value} {row : Option Nat} (h : W.ownsRow base e size u n xs) (hr : ∀ r, row = some r → B ≤ r ∧ ∃ o, W.heap[r]? = some o ∧ o.isCells = false) : u.ownBlock = none ∨ u.ownBlock ≠ row := by
  cases hu : u.ownBlock with
  | none => exact .inl rfl
  | some g =>
    refine .inr (fun e => ?_)
    obtain ⟨_, c, f, hc⟩ := row_kind h g hu
    obtain ⟨_, o, ho, hc2⟩ := hr g e.symm
    rw [hc] at ho; cases ho; cases hc2
theorem row_set {W : World} {base size n b : Nat} {e T : TypeId} {u x y : Value} {xs : List Value} (h : W.ownsRow base e size u n xs) (hb : W.heap[b]? = some (.cells #[x] T (0, 0))) (hT : T ≠ e := by decide) : (W.setCell ⟨b, 0, none⟩ y).ownsRow base e size u n xs := by
  refine h.kept (gset W b 0 y) ?_
  cases hu : u.ownBlock with
  | none => exact .inl rfl
  | some g =>
    refine .inr (fun e1 => ?_)
    obtain ⟨_, c, f, hc⟩ := row_kind h g hu
    cases e1
    rw [hb] at hc; cases hc
    exact hT rfl
theorem K26.grown {B : Nat} {W W' : World} {row : Option Nat} (hg : W.grownBy W' row) (hB : B ≤ W.heap.size) (hr : ∀ r, row = some r → B ≤ r ∧ ∃ c f, W.heap[r]? = some (.cells c 9 f)) : K26 B W W' :=
  ⟨(Below.refl _ _).grown hg hB (fun r e => (hr r e).1), fun g hgc => hg.block g (by obtain ⟨c, f, e⟩ := hgc; exact lt_of_block e) (fun e => by
    obtain ⟨c, f, e2⟩ := hgc
    obtain ⟨_, c', f', e3⟩ := hr g e.symm
    rw [e2] at e3; cases e3)⟩
/-- Between two rounds: the names so far. -/
def RI (w : World) (full : List AE) (k : Nat) (A : World) : Prop := ∃ u, A.heap[w.heap.size + 1]? = some (.cells #[u] 22 (0, 0)) ∧ A.ownsRow w.heap.size 9 1 u (refsL (full.take k)).length ((refsL (full.take k)).map Value.string) ∧ Below w.heap.size w A
theorem RI.kept {w : World} {full : List AE} {k : Nat} {A Y : World} {row : Option Nat} (h : RI w full k A) (hg : A.grownBy Y row) (hr : ∀ r, row = some r → w.heap.size ≤ r ∧ ∃ o, A.heap[r]? = some o ∧ o.isCells = false) : RI w full k Y := by
  obtain ⟨u, h1, h2, h3⟩ := h
  refine ⟨u, (hg.block _ (lt_of_block h1) (fun e => ?_)).trans h1, h2.kept hg (row_far h2 hr), h3.grown hg h3.size (fun r e => (hr r e).1)⟩
  obtain ⟨_, o, ho, hc⟩ := hr _ e.symm
  rw [h1] at ho; cases ho; cases hc
/-- What an append and its store leave. -/
theorem refs_step {w W w5 : World} {full : List AE} {k : Nat} {u : Value} {s : ByteArray} {g cap : Nat} {N : List ByteArray} (h1 : W.heap[w.heap.size + 1]? = some (.cells #[u] 22 (0, 0))) (h2 : W.ownsRow w.heap.size 9 1 u N.length (N.map Value.string)) (h3 : Below w.heap.size w W) (hst : refsL (full.take (k + 1)) = N ++ [s])
    (hown : w5.ownsRow w.heap.size 9 1 (.slice (some ⟨g, 0, none⟩) (N.length + 1) cap) (N.length + 1) (N.map Value.string ++ [.string s])) (hgrow : (W.drew.alloc (.cells #[.string s] 9)).grownBy w5 u.ownBlock) :
    KeepsOthers W (w5.setCell ⟨w.heap.size + 1, 0, none⟩ (.slice (some ⟨g, 0, none⟩) (N.length + 1) cap)) ∧ K26 w.heap.size W (w5.setCell ⟨w.heap.size + 1, 0, none⟩ (.slice (some ⟨g, 0, none⟩) (N.length + 1) cap)) ∧ RI w full (k + 1) (w5.setCell ⟨w.heap.size + 1, 0, none⟩ (.slice (some ⟨g, 0, none⟩) (N.length + 1) cap)) := by
  have hb : Below W.heap.size W (W.drew.alloc (.cells #[.string s] 9)) := (Below.refl _ _).drew.trans (show Below W.heap.size W.drew _ from bel1 W.drew _)
  have hk := row_kind h2
  have hkA : ∀ r, u.ownBlock = some r → w.heap.size ≤ r ∧ ∃ c f, (W.drew.alloc (.cells #[.string s] 9)).heap[r]? = some (.cells c 9 f) := fun r e => by
    obtain ⟨h, c, f, hc⟩ := hk r e
    exact ⟨h, c, f, (hb.block r (lt_of_block hc)).trans hc⟩
  have hne : some (w.heap.size + 1) ≠ u.ownBlock := fun e => by
    obtain ⟨_, c, f, hc⟩ := hk _ e.symm
    rw [h1] at hc; cases hc
  have hb3 := h3.size
  have h5 : w5.heap[w.heap.size + 1]? = some (.cells #[u] 22 (0, 0)) := (hgrow.block _ (by have := lt_of_block h1; have := hb.size; omega) hne).trans ((hb.block _ (lt_of_block h1)).trans h1)
  refine ⟨?_, ?_, _, set_same h5, ?_, ?_⟩
  · exact (((KeepsOthers.drew W).trans (KeepsOthers.alloc _ _)).trans (KeepsOthers.of_grownBy hgrow (fun j o e ho => by obtain ⟨_, c, f, hc⟩ := hkA j e; rw [hc] at ho; cases ho; rfl))).trans (KeepsOthers.setCell _ _ _)
  · exact ((K26.of hb (by omega)).trans (K26.grown hgrow (by have := hb.size; omega) hkA)).trans (K26.set h5 (by omega) (by decide) _)
  · rw [hst, List.length_append, List.map_append]
    exact Go.Proofs.YtigdibglkejciaaDoor.Ex.row_set hown h5
  · exact ((h3.trans (hb.mono hb3)).grown hgrow (by have := hb.size; omega) (fun r e => (hkA r e).1)).setCell (p := ⟨w.heap.size + 1, 0, none⟩) (by show w.heap.size ≤ w.heap.size + 1; omega) _
set_option maxRecDepth 100000 in
set_option maxHeartbeats 8000000 in
theorem refs_any (n : Nat) (w : World) (v : V7) (x : Ex n) (d : Nat) (hsm : SmallE n d x) (hc : cnt n x ≤ 200) (hx : ExIn w w.heap.size n v x) : Calls Tryd.prog 12 #[.agg #[.int .i64 v.op, .int .i64 v.num, .string v.tx, .slice v.pa v.pl v.pc, .slice v.qa v.ql v.qc, .bool v.opn, .slice v.ka v.kl v.kc]] w (RefsPost (allE n x) w) := by
  obtain ⟨i0, hi0, z0, z1, z2⟩ := info_parts info9
  have HI := Lib.hid (show Tryd.prog.info? 9 = some i0 ∧ i0.zero = _ ∧ i0.size = 1 ∧ i0.bytes = 16 from ⟨hi0, z0, z1, z2⟩)
  have hM : (allE n x).length ≤ 200 := Nat.le_trans (all_le n x) hc
  have HIT := Lib.hid (iter_ok n x v d w w.heap.size hsm hx (w.heap.size + 1 + 1) 3 (by omega))
  clear hsm hx hc hi0 z0 z1 z2
  generalize allE n x = full at hM HIT ⊢
  have hbw : Below w.heap.size w (((w.alloc (.cells #[.int .i64 v.op, .int .i64 v.num, .string v.tx, .slice v.pa v.pl v.pc, .slice v.qa v.ql v.qc, .bool v.opn, .slice v.ka v.kl v.kc] 26)).alloc (.cells #[.slice none 0 0] 22)).alloc (.cells #[.int .i64 v.op, .int .i64 v.num, .string v.tx, .slice v.pa v.pl v.pc, .slice v.qa v.ql v.qc, .bool v.opn, .slice v.ka v.kl v.kc] 26)) := (bel1 _ _).trans (((bel1 _ _).trans ((bel1 _ _).mono (by simp))).mono (by simp))
  have hc1 : ((((w.alloc (.cells #[.int .i64 v.op, .int .i64 v.num, .string v.tx, .slice v.pa v.pl v.pc, .slice v.qa v.ql v.qc, .bool v.opn, .slice v.ka v.kl v.kc] 26)).alloc (.cells #[.slice none 0 0] 22)).alloc (.cells #[.int .i64 v.op, .int .i64 v.num, .string v.tx, .slice v.pa v.pl v.pc, .slice v.qa v.ql v.qc, .bool v.opn, .slice v.ka v.kl v.kc] 26))).heap[w.heap.size + 1]? = some (.cells #[.slice none 0 0] 22 (0, 0)) := by
    have h := new_cells (w.alloc (.cells #[.int .i64 v.op, .int .i64 v.num, .string v.tx, .slice v.pa v.pl v.pc, .slice v.qa v.ql v.qc, .bool v.opn, .slice v.ka v.kl v.kc] 26)) #[.slice none 0 0] 22
    rw [World.size_alloc] at h
    exact (Below.heap_alloc _ _ _ (by simp)).trans h
  have hc2 : ((((w.alloc (.cells #[.int .i64 v.op, .int .i64 v.num, .string v.tx, .slice v.pa v.pl v.pc, .slice v.qa v.ql v.qc, .bool v.opn, .slice v.ka v.kl v.kc] 26)).alloc (.cells #[.slice none 0 0] 22)).alloc (.cells #[.int .i64 v.op, .int .i64 v.num, .string v.tx, .slice v.pa v.pl v.pc, .slice v.qa v.ql v.qc, .bool v.opn, .slice v.ka v.kl v.kc] 26))).heap[w.heap.size + 1 + 1]? = some (.cells #[.int .i64 v.op, .int .i64 v.num, .string v.tx, .slice v.pa v.pl v.pc, .slice v.qa v.ql v.qc, .bool v.opn, .slice v.ka v.kl v.kc] 26 (0, 0)) := by
    have h := new_cells ((w.alloc (.cells #[.int .i64 v.op, .int .i64 v.num, .string v.tx, .slice v.pa v.pl v.pc, .slice v.qa v.ql v.qc, .bool v.opn, .slice v.ka v.kl v.kc] 26)).alloc (.cells #[.slice none 0 0] 22)) #[.int .i64 v.op, .int .i64 v.num, .string v.tx, .slice v.pa v.pl v.pc, .slice v.qa v.ql v.qc, .bool v.opn, .slice v.ka v.kl v.kc] 26
    rw [World.size_alloc, World.size_alloc] at h
    exact h
  have hsz : ((((w.alloc (.cells #[.int .i64 v.op, .int .i64 v.num, .string v.tx, .slice v.pa v.pl v.pc, .slice v.qa v.ql v.qc, .bool v.opn, .slice v.ka v.kl v.kc] 26)).alloc (.cells #[.slice none 0 0] 22)).alloc (.cells #[.int .i64 v.op, .int .i64 v.num, .string v.tx, .slice v.pa v.pl v.pc, .slice v.qa v.ql v.qc, .bool v.opn, .slice v.ka v.kl v.kc] 26))).heap.size = w.heap.size + 1 + 1 + 1 := by simp
  have HW := Lib.hid (And.intro hbw (And.intro hc1 (And.intro hc2 hsz)))
  clear hbw hc1 hc2 hsz
  refine (callsIn_wide (n := 4)).1 ?_
  refine callsIn_of_wp_marks Tryd.func12 rfl trivial ?_ rfl
  simp only [Tryd.ntmps12, List.size_toArray, List.length_cons, List.length_nil, Nat.reduceAdd, Nat.reduceSub, Array.replicate_succ, Array.replicate_zero, List.push_toArray, List.append_toArray, List.nil_append, List.cons_append]
  gi_wp2_with (refine ⟨trivial, ?_⟩; gi_at_call 9; refine (callsIn_wide.2 (walk_maker v _)).mono ?_; rintro e w1 ⟨rfl, rfl⟩)
  obtain ⟨hbw, hc1, hc2, hsz⟩ := HW.out
  clear HW
  generalize (((w.alloc (.cells #[.int .i64 v.op, .int .i64 v.num, .string v.tx, .slice v.pa v.pl v.pc, .slice v.qa v.ql v.qc, .bool v.opn, .slice v.ka v.kl v.kc] 26)).alloc (.cells #[.slice none 0 0] 22)).alloc (.cells #[.int .i64 v.op, .int .i64 v.num, .string v.tx, .slice v.pa v.pl v.pc, .slice v.qa v.ql v.qc, .bool v.opn, .slice v.ka v.kl v.kc] 26)) = w4 at hbw hc1 hc2 hsz ⊢
  refine walk_law rfl (by omega) (gf := 28) (lb := #[.pointer (some ⟨w.heap.size + 1 + 1, 0, none⟩)]) rfl trivial (enters_of Tryd.func28 (by kernel_rfl) rfl)
    HIT.out (by rintro k xs ⟨v', y, _, rfl, _⟩; rfl) (fun A B hm hb => ⟨(hb.block _ (lt_of_block hm.1)).trans hm.1, Nat.le_trans hm.2.1 hb.size, hm.2.2.trans (hb.mono hm.2.1)⟩) ⟨hc2, by omega, hbw⟩
    (fun A B C h k => h.trans k) (fun W l o o' hl h ho => K26.put h ho (by omega) o')
    (RI w full) (fun _ _ => False) ?own (fun _ _ _ _ hs _ _ => hs) ⟨_, hc1, World.ownsRow_nil _ _ _ _, hbw⟩
    (fun xs a' W => ∃ xb, W.heap[xb]? = some (.cells (aggOf (xs.getD 0 undef)) 26 (0, 0)) ∧ a' = { tmps := #[.agg #[.int .i64 v.op, .int .i64 v.num, .string v.tx, .slice v.pa v.pl v.pc, .slice v.qa v.ql v.qc, .bool v.opn, .slice v.ka v.kl v.kc], .pointer (some ⟨w.heap.size, 0, none⟩), .slice none 0 0, .pointer (some ⟨w.heap.size + 1, 0, none⟩), .pointer (some ⟨xb, 0, none⟩), .agg #[.int .i64 v.op, .int .i64 v.num, .string v.tx, .slice v.pa v.pl v.pc, .slice v.qa v.ql v.qc, .bool v.opn, .slice v.ka v.kl v.kc], .func (.func 28) #[] #[.pointer (some ⟨w.heap.size + 1 + 1, 0, none⟩)], xs.getD 0 undef, undef, undef, undef, undef, undef, undef, undef, undef, undef, undef, undef, undef, undef, undef, undef, undef, undef], defers := [] }) ?ownx ?assign ?body ?done ?stop
  case own =>
    rintro k A W row h hg hr
    exact h.kept hg (fun r e => ⟨by have := (hr r e).1; omega, (hr r e).2⟩)
  case ownx =>
    rintro xs a' k A W row ⟨xb, h2, h3⟩ hg hr
    exact ⟨xb, (grownBy_keeps_cells hg (fun r e => (hr r e).2) h2 rfl).trans h2, h3⟩
  case assign =>
    rintro l k xs W K hI hk ⟨v', y, hy, rfl, hv⟩ hK
    obtain ⟨u, _, _, hbW⟩ := id hI
    have hsW := hbW.size
    clear HIT hbw hc1 hc2
    gi_wp2
    exact hK _ _ ((KeepsOthers.alloc _ _).from _) (K26.of (bel1 _ _) hsW) (hI.kept (grown_below (bel1 _ _)) (fun r e => by cases e)) ⟨W.heap.size, new_cells _ _ _, rfl⟩
  case body =>
    rintro l k xs a' W ⟨u, h1, h2, h3⟩ ⟨xb, hX, rfl⟩ hk ⟨v', y, hy, rfl, hv⟩
    replace hX : W.heap[xb]? = some (.cells #[.int .i64 v'.op, .int .i64 v'.num, .string v'.tx, .slice v'.pa v'.pl v'.pc, .slice v'.qa v'.ql v'.qc, .bool v'.opn, .slice v'.ka v'.kl v'.kc] 26 (0, 0)) := hX
    have hky : y = full[k] := by rw [List.getElem?_eq_getElem hk] at hy; exact (Option.some.inj hy).symm
    have hst : refsL (full.take (k + 1)) = refsL (full.take k) ++ refOf y := by rw [hky]; exact refsL_succ full k hk
    have hrl : (refsL (full.take k)).length ≤ k := by have := refsL_le (full.take k); rw [List.length_take] at this; omega
    have hk2 : k < 200 := by omega
    have cX := cells_of hX
    have c1 : W.cell? ⟨w.heap.size + 1, 0, none⟩ = some u := cells_of h1 0
    have f1 : W.frozen? ⟨w.heap.size + 1, 0, none⟩ = false := cells_free h1 0
    have hobl := lt_of_block h1
    have hxbl := lt_of_block hX
    have hsW := h3.size
    have HRI := Lib.hid (show RI w full k W from ⟨u, h1, h2, h3⟩)
    have NXO : Hid (xb ≠ w.heap.size + 1) := Lib.hid (fun e => by rw [e] at hX; rw [hX] at h1; cases h1)
    have NX : Hid (some xb ≠ u.ownBlock) := Lib.hid (fun e => by obtain ⟨_, c, f, hc⟩ := row_kind h2 xb e.symm; rw [hX] at hc; cases hc)
    have NO : Hid (some (w.heap.size + 1) ≠ u.ownBlock) := Lib.hid (fun e => by obtain ⟨_, c, f, hc⟩ := row_kind h2 _ e.symm; rw [h1] at hc; cases hc)
    have NGG : Hid (∀ gp, gp < w.heap.size → some gp ≠ u.ownBlock) := Lib.hid (fun gp hgp e => by obtain ⟨h, _⟩ := row_kind h2 gp e.symm; omega)
    have H1 := Lib.hid h1
    have H2 := Lib.hid h2
    have H3 := Lib.hid h3
    clear HIT hbw hc1 hc2 h1 h2 hX hy hky hk
    show Code.wpIn _ _ _ _ _ { tmps := #[.agg #[.int .i64 v.op, .int .i64 v.num, .string v.tx, .slice v.pa v.pl v.pc, .slice v.qa v.ql v.qc, .bool v.opn, .slice v.ka v.kl v.kc], .pointer (some ⟨w.heap.size, 0, none⟩), .slice none 0 0, .pointer (some ⟨w.heap.size + 1, 0, none⟩), .pointer (some ⟨xb, 0, none⟩), .agg #[.int .i64 v.op, .int .i64 v.num, .string v.tx, .slice v.pa v.pl v.pc, .slice v.qa v.ql v.qc, .bool v.opn, .slice v.ka v.kl v.kc], .func (.func 28) #[] #[.pointer (some ⟨w.heap.size + 1 + 1, 0, none⟩)], .agg #[.int .i64 v'.op, .int .i64 v'.num, .string v'.tx, .slice v'.pa v'.pl v'.pc, .slice v'.qa v'.ql v'.qc, .bool v'.opn, .slice v'.ka v'.kl v'.kc], undef, undef, undef, undef, undef, undef, undef, undef, undef, undef, undef, undef, undef, undef, undef, undef, undef], defers := [] } W
    by_cases h9 : v'.op = 9
    · have e9 : ((v'.op : Int) == 9) = true := by simp [h9]
      by_cases hp : 0 < v'.pl
      · obtain ⟨gp, off, nm, ea, hgp, hcp, hrf⟩ := ref_1 hv h9 hp
        have cp : W.cell? ⟨gp, off, none⟩ = _ := (h3.cell (p := ⟨gp, off, none⟩) hgp).trans hcp
        have hgpl : gp < W.heap.size := by omega
        have NG := Lib.hid (NGG.out gp hgp)
        have NGO : Hid (gp ≠ w.heap.size + 1) := Lib.hid (by omega)
        have ip : (0 : Int) < (v'.pl : Int) := by omega
        have HST : Hid (refsL (full.take (k + 1)) = refsL (full.take k) ++ [nm]) := Lib.hid (by rw [hst, hrf])
        rw [ea] at cX ⊢
        generalize refsL (full.take k) = N at H2 HST hrl
        clear hst hcp hrf ea h9 hv h3
        gi_wp2
        refine wpIn_region_held_round (S := SR xb gp off (w.heap.size + 1) (.slice (some ⟨gp, off, none⟩) v'.pl v'.pc) (.string nm)) (by kernel_rfl) (by kernel_rfl) ?_ (fun hH => ?_)
        · exact ⟨cX 3, cp, f1⟩
        refine wpAnyH_take (i := 1) (v := ?_) rfl (by kernel_rfl) (by kernel_rfl) (by kernel_rfl) (fun _ _ _ h => h) (Or.inl ⟨by rfl, ?_⟩) (by assumption) ?_
        rotate_left; focus (intro w hSw; (try dsimp only at hSw); go_simp; try with_reducible rfl)
        (try simp only [List.getElem_toArray, List.getElem_cons_succ, List.getElem_cons_zero, Act.put, List.setIfInBounds_toArray, List.set_cons_zero, List.set_cons_succ])
        refine wpAnyH_take (i := 2) (v := ?_) rfl (by kernel_rfl) (by kernel_rfl) (by kernel_rfl) (fun _ _ _ h => h) (Or.inl ⟨by rfl, ?_⟩) (by assumption) ?_
        rotate_left; focus (intro w hSw; (try dsimp only at hSw); go_simp; try with_reducible rfl)
        (try simp only [List.getElem_toArray, List.getElem_cons_succ, List.getElem_cons_zero, Act.put, List.setIfInBounds_toArray, List.set_cons_zero, List.set_cons_succ])
        refine wpAnyH_take (i := 3) (v := ?_) rfl (by kernel_rfl) (by kernel_rfl) (by kernel_rfl) (fun _ _ _ h => h) (Or.inl ⟨by rfl, ?_⟩) (by assumption) ?_
        rotate_left; focus (intro w hSw; (try dsimp only at hSw); go_simp; try with_reducible rfl)
        (try simp only [List.getElem_toArray, List.getElem_cons_succ, List.getElem_cons_zero, Act.put, List.setIfInBounds_toArray, List.set_cons_zero, List.set_cons_succ])
        refine wpAnyH_take (i := 4) (v := ?_) rfl (by kernel_rfl) (by kernel_rfl) (by kernel_rfl) (fun _ _ _ h => h) (Or.inl ⟨by rfl, ?_⟩) (by assumption) ?_
        rotate_left; focus (intro w hSw; (try dsimp only at hSw); go_simp; try with_reducible rfl)
        (try simp only [List.getElem_toArray, List.getElem_cons_succ, List.getElem_cons_zero, Act.put, List.setIfInBounds_toArray, List.set_cons_zero, List.set_cons_succ])
        refine wpAnyH_ready (rs := [0, 5]) (by kernel_rfl) (by simp) ?_
        refine AllReadyH.cons rfl (fun K hK => ?_) ?_
        · skip
          go_simp
          refine hK.out _ _ ?_ (fun hH2 => ?_)
          · assumption
          clear hK K hH
          have hH := hH2; clear hH2
          (try simp only [List.getElem_toArray, List.getElem_cons_succ, List.getElem_cons_zero, Act.put, List.setIfInBounds_toArray, List.set_cons_zero, List.set_cons_succ])
          refine wpAnyH_ready (rs := [5]) (by kernel_rfl) (by simp) ?_
          refine AllReadyH.cons rfl (fun K hK => ?_) ?_
          · skip
            go_simp
            refine hK.out _ _ ?_ (fun hH2 => ?_)
            · exact hH.grown (grown_below (bel1 W.drew _)) hxbl hgpl hobl (by intro e; cases e) (by intro e; cases e) (by intro e; cases e)
            clear hK K hH
            have hH := hH2; clear hH2
            (try simp only [List.getElem_toArray, List.getElem_cons_succ, List.getElem_cons_zero, Act.put, List.setIfInBounds_toArray, List.set_cons_zero, List.set_cons_succ])
            refine wpAnyH_ready (rs := [6]) (by kernel_rfl) (by simp) ?_
            refine AllReadyH.cons rfl (fun K hK => ?_) ?_
            · skip
              refine step_append_lies _ (by rfl) _ _ 22 (by rfl) w.heap.size 9 i0 _ 1 16 Tryd.underlying22 HI.out.1 HI.out.2.1 HI.out.2.2.1 HI.out.2.2.2 (by rfl) (by decide) u N.length (N.map Value.string) (by rfl) ((H2.out.drew).alloc _) ⟨W.heap.size, 0, none⟩ 1 1 [.string nm] (by rfl) (by rfl) (World.news_of_block (new_cells W.drew #[.string nm] 9)) (by intro z hz; simp at hz; subst hz; rfl) (by omega) (by unfold maxLen; omega) (by omega) (by simp; omega) (W.heap.size + 1) (by simp) ?_
              intro g cap w5 hown hgrow hat hlt1
              have c5 : w5.cell? ⟨w.heap.size + 1, 0, none⟩ = some u := (hgrow.cell_far ⟨w.heap.size + 1, 0, none⟩ (by simp; omega) NO.out).trans ((Below.cell (bel1 W.drew _) (p := ⟨w.heap.size + 1, 0, none⟩) hobl).trans c1)
              have f5 : w5.frozen? ⟨w.heap.size + 1, 0, none⟩ = false := (hgrow.frozen_far ⟨w.heap.size + 1, 0, none⟩ (by simp; omega) NO.out).trans ((Below.frozen (bel1 W.drew _) (p := ⟨w.heap.size + 1, 0, none⟩) hobl).trans f1)
              have hs5 : W.heap.size < w5.heap.size := by have := hgrow.size; simp at this; omega
              refine hK.out _ _ ?_ (fun hH2 => ?_)
              · exact hH.grown hgrow (by simp; omega) (by simp; omega) (by simp; omega) NX.out NG.out NO.out
              clear hK K hH
              have hH := hH2; clear hH2
              (try simp only [List.getElem_toArray, List.getElem_cons_succ, List.getElem_cons_zero, Act.put, List.setIfInBounds_toArray, List.set_cons_zero, List.set_cons_succ])
              refine wpAnyH_ready (rs := [7]) (by kernel_rfl) (by simp) ?_
              refine AllReadyH.cons rfl (fun K hK => ?_) ?_
              · skip
                go_simp
                refine hK.out _ _ ?_ (fun hH2 => ?_)
                · exact hH.set (by omega) (by omega) NXO.out NGO.out _
                clear hK K hH
                have hH := hH2; clear hH2
                (try simp only [List.getElem_toArray, List.getElem_cons_succ, List.getElem_cons_zero, Act.put, List.setIfInBounds_toArray, List.set_cons_zero, List.set_cons_succ])
                refine wpAnyH_done (by kernel_rfl) ?_ _
                clear hH
                refine calmQ_end ?_
                obtain ⟨q1, q2, q3⟩ := refs_step H1.out H2.out H3.out HST.out hown hgrow
                have Q1 := Lib.hid q1
                have Q2 := Lib.hid q2
                have Q3 := Lib.hid q3
                clear q1 q2 q3 hown hgrow hat hlt1 c5 f5 hs5
                (try gi_wp2)
                exact ⟨Q1.out.from _, Q2.out, Q3.out⟩
              exact AllReadyH.nil
            exact AllReadyH.nil
          exact AllReadyH.nil
        refine AllReadyH.cons rfl (fun K hK => ?_) ?_
        · skip
          go_simp
          refine hK.out _ _ ?_ (fun hH2 => ?_)
          · exact hH.grown (grown_below (bel1 W.drew _)) hxbl hgpl hobl (by intro e; cases e) (by intro e; cases e) (by intro e; cases e)
          clear hK K hH
          have hH := hH2; clear hH2
          (try simp only [List.getElem_toArray, List.getElem_cons_succ, List.getElem_cons_zero, Act.put, List.setIfInBounds_toArray, List.set_cons_zero, List.set_cons_succ])
          refine wpAnyH_ready (rs := [0]) (by kernel_rfl) (by simp) ?_
          refine AllReadyH.cons rfl (fun K hK => ?_) ?_
          · skip
            go_simp
            refine hK.out _ _ ?_ (fun hH2 => ?_)
            · assumption
            clear hK K hH
            have hH := hH2; clear hH2
            (try simp only [List.getElem_toArray, List.getElem_cons_succ, List.getElem_cons_zero, Act.put, List.setIfInBounds_toArray, List.set_cons_zero, List.set_cons_succ])
            refine wpAnyH_ready (rs := [6]) (by kernel_rfl) (by simp) ?_
            refine AllReadyH.cons rfl (fun K hK => ?_) ?_
            · skip
              refine step_append_lies _ (by rfl) _ _ 22 (by rfl) w.heap.size 9 i0 _ 1 16 Tryd.underlying22 HI.out.1 HI.out.2.1 HI.out.2.2.1 HI.out.2.2.2 (by rfl) (by decide) u N.length (N.map Value.string) (by rfl) ((H2.out.drew).alloc _) ⟨W.heap.size, 0, none⟩ 1 1 [.string nm] (by rfl) (by rfl) (World.news_of_block (new_cells W.drew #[.string nm] 9)) (by intro z hz; simp at hz; subst hz; rfl) (by omega) (by unfold maxLen; omega) (by omega) (by simp; omega) (W.heap.size + 1) (by simp) ?_
              intro g cap w5 hown hgrow hat hlt1
              have c5 : w5.cell? ⟨w.heap.size + 1, 0, none⟩ = some u := (hgrow.cell_far ⟨w.heap.size + 1, 0, none⟩ (by simp; omega) NO.out).trans ((Below.cell (bel1 W.drew _) (p := ⟨w.heap.size + 1, 0, none⟩) hobl).trans c1)
              have f5 : w5.frozen? ⟨w.heap.size + 1, 0, none⟩ = false := (hgrow.frozen_far ⟨w.heap.size + 1, 0, none⟩ (by simp; omega) NO.out).trans ((Below.frozen (bel1 W.drew _) (p := ⟨w.heap.size + 1, 0, none⟩) hobl).trans f1)
              have hs5 : W.heap.size < w5.heap.size := by have := hgrow.size; simp at this; omega
              refine hK.out _ _ ?_ (fun hH2 => ?_)
              · exact hH.grown hgrow (by simp; omega) (by simp; omega) (by simp; omega) NX.out NG.out NO.out
              clear hK K hH
              have hH := hH2; clear hH2
              (try simp only [List.getElem_toArray, List.getElem_cons_succ, List.getElem_cons_zero, Act.put, List.setIfInBounds_toArray, List.set_cons_zero, List.set_cons_succ])
              refine wpAnyH_ready (rs := [7]) (by kernel_rfl) (by simp) ?_
              refine AllReadyH.cons rfl (fun K hK => ?_) ?_
              · skip
                go_simp
                refine hK.out _ _ ?_ (fun hH2 => ?_)
                · exact hH.set (by omega) (by omega) NXO.out NGO.out _
                clear hK K hH
                have hH := hH2; clear hH2
                (try simp only [List.getElem_toArray, List.getElem_cons_succ, List.getElem_cons_zero, Act.put, List.setIfInBounds_toArray, List.set_cons_zero, List.set_cons_succ])
                refine wpAnyH_done (by kernel_rfl) ?_ _
                clear hH
                refine calmQ_end ?_
                obtain ⟨q1, q2, q3⟩ := refs_step H1.out H2.out H3.out HST.out hown hgrow
                have Q1 := Lib.hid q1
                have Q2 := Lib.hid q2
                have Q3 := Lib.hid q3
                clear q1 q2 q3 hown hgrow hat hlt1 c5 f5 hs5
                (try gi_wp2)
                exact ⟨Q1.out.from _, Q2.out, Q3.out⟩
              exact AllReadyH.nil
            exact AllReadyH.nil
          exact AllReadyH.nil
        exact AllReadyH.nil
      · have hp0 : v'.pl = 0 := by omega
        have HST : Hid (refsL (full.take (k + 1)) = refsL (full.take k)) := Lib.hid (by rw [hst, ref_0 hv hp0, List.append_nil])
        rw [hp0] at cX ⊢
        clear hst hp hp0 h9 hv h3
        gi_wp2
        exact ⟨KeepsFrom.refl _ _, K26.refl _ _, by unfold RI; rw [HST.out]; exact HRI.out⟩
    · have e9 : ((v'.op : Int) == 9) = false := by simpa using h9
      have HST : Hid (refsL (full.take (k + 1)) = refsL (full.take k)) := Lib.hid (by rw [hst, ref_no hv h9, List.append_nil])
      clear hst h9 hv h3
      gi_wp2
      exact ⟨KeepsFrom.refl _ _, K26.refl _ _, by unfold RI; rw [HST.out]; exact HRI.out⟩
  case done =>
    rintro D W hD ⟨u, h1, h2, h3⟩ hd
    have hc := cells_of h1 0
    have hu : ∃ a cap, u = .slice a (refsL full).length cap ∧ StrsIn W W.heap.size a (refsL full).length (refsL full) := by
      rw [List.take_length] at h2
      have hle := refsL_le full
      obtain ⟨hx, ⟨e1, h0⟩ | ⟨g, cap, cur, e1, hg, hh, hr⟩⟩ := id h2
      · rw [h0]
        refine ⟨none, 0, e1, ?_, by unfold maxLen; omega, fun h => by omega⟩
        exact h0.symm
      · subst e1
        exact ⟨_, cap, rfl, StrsIn.of_row h2 rfl (by unfold maxLen; omega)⟩
    obtain ⟨ua, uc, rfl, hS⟩ := hu
    have HF := Lib.hid (And.intro hS h3)
    have HDD := Lib.hid hd
    clear HIT hbw hc1 hc2 h1 h2 h3 hd hS
    gi_wp2
    refine ⟨by simp, .inl ⟨_, _, rfl, run_takeDeferred HDD.out, ?_⟩⟩
    refine ⟨_, results_tmp rfl _ _ _, ua, uc, rfl, ?_, ?_⟩
    · obtain ⟨h1, h2, h3⟩ := HF.out.1
      refine ⟨h1, h2, fun hp => ?_⟩
      obtain ⟨g, off, e, hg, hi⟩ := h3 hp
      have hs : (W.putObj D (.deferred none)).heap.size = W.heap.size := World.putObj_size
      refine ⟨g, off, e, by omega, fun i hlt => ?_⟩
      refine (World.cell?_of_block (w := W) (World.putObj_heap_other (fun e => ?_))).trans (hi i hlt)
      have h := hi i hlt
      subst e
      unfold World.cell? at h
      rw [HDD.out] at h
      cases h
    · exact HF.out.2.grown (grownBy_putObj' W D _) HF.out.2.size (fun k e => by cases e; omega)
  case stop =>
    rintro D c W hD h _
    exact h.elim
end Go.Proofs.YtigdibglkejciaaDoor.Ex
