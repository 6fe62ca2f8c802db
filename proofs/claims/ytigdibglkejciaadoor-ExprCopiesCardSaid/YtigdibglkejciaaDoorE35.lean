/-
  Walk, as an iterator; how many expressions an expression is.
-/
import Derived.Test.YtigdibglkejciaaDoorE34
namespace Go.Proofs.YtigdibglkejciaaDoor.Ex
open Go.RowKit Go
set_option linter.unusedSimpArgs false
attribute [local go_sem] Oper.semAt_some

theorem any_depth {m : Nat} (m' : Nat) {P : Program} {l : Nat} {args : Array Value} {W : World} {R : Ending → World → Prop} (h : YieldAt Fence.wide m P l args W R) : YieldAt Fence.wide m' P l args W R := by
  obtain ⟨fn, tmps, assign, body, hy, hR⟩ := h
  exact ⟨fn, tmps, assign, body, hy, hR.1, fun c cs _ => hR.2 c cs (fun d h => by cases h)⟩
theorem walk_maker (v : V7) (w : World) : Calls Tryd.prog 9 #[.agg #[.int .i64 v.op, .int .i64 v.num, .string v.tx, .slice v.pa v.pl v.pc, .slice v.qa v.ql v.qc, .bool v.opn, .slice v.ka v.kl v.kc]] w fun e w' => e = .returned (.func (.func 28) #[] #[.pointer (some ⟨w.heap.size, 0, none⟩)]) ∧ w' = w.alloc (.cells #[.int .i64 v.op, .int .i64 v.num, .string v.tx, .slice v.pa v.pl v.pc, .slice v.qa v.ql v.qc, .bool v.opn, .slice v.ka v.kl v.kc] 26) := by
  go_enter Tryd.func9, Tryd.ntmps9
  go_wp2
  go_ret
  exact ⟨rfl, rfl⟩
set_option maxHeartbeats 2000000 in
theorem iter_ok (n : Nat) (x : Ex n) (v : V7) (d : Nat) (W0 : World) (B : Nat) (hsm : SmallE n d x) (hx : ExIn W0 B n v x) (bt m : Nat) (hm : 1 ≤ m) :
    IterW Fence.wide m Tryd.prog 28 #[.pointer (some ⟨bt, 0, none⟩)] (allE n x).length (fun W => W.heap[bt]? = some (.cells #[.int .i64 v.op, .int .i64 v.num, .string v.tx, .slice v.pa v.pl v.pc, .slice v.qa v.ql v.qc, .bool v.opn, .slice v.ka v.kl v.kc] 26 (0, 0)) ∧ B ≤ W.heap.size ∧ Below B W0 W) (K26 B) (Told W0 B (allE n x)) := by
  intro l J Jx W hJ ⟨hc, hB, hb⟩ hY h0
  have HC := Lib.hid (walk_in n l (allE n x) W0 B J Jx hJ (fun m' k xs A hj hk ht => any_depth m' (hY k xs A hj hk ht)) x v d (m - 1) 0 W hsm hx hB hb (fun i h => by rw [Nat.zero_add]; exact List.getElem?_eq_getElem h) h0)
  have hA := cells_of hc
  rw [Nat.zero_add] at HC
  clear hJ hY h0 hc hb hx hsm
  show CallsIn Fence.wide m Tryd.prog 28 #[.func (.yield l) #[] #[], .pointer (some ⟨bt, 0, none⟩)] W _
  refine callsIn_of_wp Tryd.func28 rfl trivial ?_ rfl
  simp only [Tryd.ntmps28, List.size_toArray, List.length_cons, List.length_nil, Nat.reduceAdd, Nat.reduceSub, Array.replicate_succ, Array.replicate_zero, List.push_toArray, List.append_toArray, List.nil_append, List.cons_append]
  gi_wp2_with (refine ⟨trivial, ?_⟩; gi_at_call 29; refine HC.out.mono ?_; rintro e W1 (⟨rfl, hJ1, _⟩ | ⟨rfl, hx1⟩))
  · go_end0
    exact ⟨⟨_, rfl⟩, .inl hJ1⟩
  · go_end0
    exact ⟨⟨_, rfl⟩, .inr hx1⟩
theorem cells_free {w : World} {b : Nat} {c : Array Value} {T : TypeId} (h : w.heap[b]? = some (.cells c T (0, 0))) (o : Nat) : w.frozen? ⟨b, o, none⟩ = false := by
  simp [World.frozen?, h]
theorem gset (w : World) (b i : Nat) (v : Value) : w.grownBy (w.setCell ⟨b, i, none⟩ v) (some b) :=
  ⟨rfl, rfl, rfl, by simp [World.setCell], fun k _ hk => Below.heap_setCell _ _ _ _ (fun e => hk (by simp [e]))⟩
theorem lt_of_block {w : World} {b : Nat} {o : Obj} (h : w.heap[b]? = some o) : b < w.heap.size := (Array.getElem?_eq_some_iff.1 h).1
theorem set_same {w : World} {b : Nat} {x y : Value} {T : TypeId} (h : w.heap[b]? = some (.cells #[x] T (0, 0))) : (w.setCell ⟨b, 0, none⟩ y).heap[b]? = some (.cells #[y] T (0, 0)) := by
  simp [World.setCell, Array.getElem?_modify, h]
/-- A store into a box that is none of expressions. -/
theorem K26.set {B : Nat} {W : World} {b : Nat} {x : Value} {T : TypeId} (h : W.heap[b]? = some (.cells #[x] T (0, 0))) (hB : B ≤ b) (hT : T ≠ 26) (y : Value) : K26 B W (W.setCell ⟨b, 0, none⟩ y) :=
  ⟨(Below.refl _ _).setCell (p := ⟨b, 0, none⟩) hB _, fun g hg => (gset W b 0 y).block g (by obtain ⟨c, f, e⟩ := hg; exact lt_of_block e) (fun e => by
    obtain ⟨c, f, e2⟩ := hg
    cases e
    rw [h] at e2
    cases e2
    exact hT rfl)⟩
theorem K26.put {B : Nat} {W : World} {l : Nat} {o : Obj} (h : W.heap[l]? = some o) (ho : o.isCells = false) (hB : B ≤ l) (o' : Obj) : K26 B W (W.putObj l o') :=
  ⟨(Below.refl _ _).grown (grownBy_putObj' W l o') (by have := lt_of_block h; omega) (fun k e => by cases e; exact hB), fun g hg => (grownBy_putObj' W l o').block g (by obtain ⟨c, f, e⟩ := hg; exact lt_of_block e) (fun e => by
    obtain ⟨c, f, e2⟩ := hg
    cases e
    rw [h] at e2
    cases e2
    cases ho)⟩
/-- A box and what lies below, between two rounds. -/
theorem box_own {B b : Nat} {T : TypeId} {w : World} (hB : w.heap.size ≤ B) (hb : b < B) (f : Nat → Value) : OwnFrom B (fun k A => A.heap[b]? = some (.cells #[f k] T (0, 0)) ∧ Below w.heap.size w A) := by
  rintro k X Y row ⟨h1, h2⟩ hg hr
  refine ⟨(hg.block b (lt_of_block h1) (fun e => ?_)).trans h1, h2.grown hg h2.size (fun r e => by have := (hr r e).1; omega)⟩
  have := (hr b e.symm).1
  omega
set_option maxRecDepth 100000 in
set_option maxHeartbeats 4000000 in
theorem size_any (n : Nat) (w : World) (v : V7) (x : Ex n) (d : Nat) (hsm : SmallE n d x) (hc : cnt n x ≤ 200) (hx : ExIn w w.heap.size n v x) : Calls Tryd.prog 21 #[.agg #[.int .i64 v.op, .int .i64 v.num, .string v.tx, .slice v.pa v.pl v.pc, .slice v.qa v.ql v.qc, .bool v.opn, .slice v.ka v.kl v.kc]] w fun e w' => e = .returned (.int .i64 ((allE n x).length : Nat)) ∧ Below w.heap.size w w' := by
  have hM : (allE n x).length ≤ 200 := Nat.le_trans (all_le n x) hc
  have HIT := Lib.hid (iter_ok n x v d w w.heap.size hsm hx (w.heap.size + 1 + 1) 3 (by omega))
  clear hsm hx hc
  generalize allE n x = full at hM HIT
  have hbw : Below w.heap.size w (((w.alloc (.cells #[.int .i64 v.op, .int .i64 v.num, .string v.tx, .slice v.pa v.pl v.pc, .slice v.qa v.ql v.qc, .bool v.opn, .slice v.ka v.kl v.kc] 26)).alloc (.cells #[.int .i64 0] 3)).alloc (.cells #[.int .i64 v.op, .int .i64 v.num, .string v.tx, .slice v.pa v.pl v.pc, .slice v.qa v.ql v.qc, .bool v.opn, .slice v.ka v.kl v.kc] 26)) := (bel1 _ _).trans (((bel1 _ _).trans ((bel1 _ _).mono (by simp))).mono (by simp))
  have hc1 : ((((w.alloc (.cells #[.int .i64 v.op, .int .i64 v.num, .string v.tx, .slice v.pa v.pl v.pc, .slice v.qa v.ql v.qc, .bool v.opn, .slice v.ka v.kl v.kc] 26)).alloc (.cells #[.int .i64 0] 3)).alloc (.cells #[.int .i64 v.op, .int .i64 v.num, .string v.tx, .slice v.pa v.pl v.pc, .slice v.qa v.ql v.qc, .bool v.opn, .slice v.ka v.kl v.kc] 26))).heap[w.heap.size + 1]? = some (.cells #[.int .i64 0] 3 (0, 0)) := by
    have h := new_cells (w.alloc (.cells #[.int .i64 v.op, .int .i64 v.num, .string v.tx, .slice v.pa v.pl v.pc, .slice v.qa v.ql v.qc, .bool v.opn, .slice v.ka v.kl v.kc] 26)) #[.int .i64 0] 3
    rw [World.size_alloc] at h
    exact (Below.heap_alloc _ _ _ (by simp)).trans h
  have hc2 : ((((w.alloc (.cells #[.int .i64 v.op, .int .i64 v.num, .string v.tx, .slice v.pa v.pl v.pc, .slice v.qa v.ql v.qc, .bool v.opn, .slice v.ka v.kl v.kc] 26)).alloc (.cells #[.int .i64 0] 3)).alloc (.cells #[.int .i64 v.op, .int .i64 v.num, .string v.tx, .slice v.pa v.pl v.pc, .slice v.qa v.ql v.qc, .bool v.opn, .slice v.ka v.kl v.kc] 26))).heap[w.heap.size + 1 + 1]? = some (.cells #[.int .i64 v.op, .int .i64 v.num, .string v.tx, .slice v.pa v.pl v.pc, .slice v.qa v.ql v.qc, .bool v.opn, .slice v.ka v.kl v.kc] 26 (0, 0)) := by
    have h := new_cells ((w.alloc (.cells #[.int .i64 v.op, .int .i64 v.num, .string v.tx, .slice v.pa v.pl v.pc, .slice v.qa v.ql v.qc, .bool v.opn, .slice v.ka v.kl v.kc] 26)).alloc (.cells #[.int .i64 0] 3)) #[.int .i64 v.op, .int .i64 v.num, .string v.tx, .slice v.pa v.pl v.pc, .slice v.qa v.ql v.qc, .bool v.opn, .slice v.ka v.kl v.kc] 26
    rw [World.size_alloc, World.size_alloc] at h
    exact h
  have hsz : ((((w.alloc (.cells #[.int .i64 v.op, .int .i64 v.num, .string v.tx, .slice v.pa v.pl v.pc, .slice v.qa v.ql v.qc, .bool v.opn, .slice v.ka v.kl v.kc] 26)).alloc (.cells #[.int .i64 0] 3)).alloc (.cells #[.int .i64 v.op, .int .i64 v.num, .string v.tx, .slice v.pa v.pl v.pc, .slice v.qa v.ql v.qc, .bool v.opn, .slice v.ka v.kl v.kc] 26))).heap.size = w.heap.size + 1 + 1 + 1 := by simp
  have HW := Lib.hid (And.intro hbw (And.intro hc1 (And.intro hc2 hsz)))
  clear hbw hc1 hc2 hsz
  refine (callsIn_wide (n := 4)).1 ?_
  refine callsIn_of_wp_marks Tryd.func21 rfl trivial ?_ rfl
  simp only [Tryd.ntmps21, List.size_toArray, List.length_cons, List.length_nil, Nat.reduceAdd, Nat.reduceSub, Array.replicate_succ, Array.replicate_zero, List.push_toArray, List.append_toArray, List.nil_append, List.cons_append]
  gi_wp2_with (refine ⟨trivial, ?_⟩; gi_at_call 9; refine (callsIn_wide.2 (walk_maker v _)).mono ?_; rintro e w1 ⟨rfl, rfl⟩)
  obtain ⟨hbw, hc1, hc2, hsz⟩ := HW.out
  clear HW
  generalize (((w.alloc (.cells #[.int .i64 v.op, .int .i64 v.num, .string v.tx, .slice v.pa v.pl v.pc, .slice v.qa v.ql v.qc, .bool v.opn, .slice v.ka v.kl v.kc] 26)).alloc (.cells #[.int .i64 0] 3)).alloc (.cells #[.int .i64 v.op, .int .i64 v.num, .string v.tx, .slice v.pa v.pl v.pc, .slice v.qa v.ql v.qc, .bool v.opn, .slice v.ka v.kl v.kc] 26)) = w4 at hbw hc1 hc2 hsz ⊢
  refine walk_law rfl (by omega) (gf := 28) (lb := #[.pointer (some ⟨w.heap.size + 1 + 1, 0, none⟩)]) rfl trivial (enters_of Tryd.func28 (by kernel_rfl) rfl)
    HIT.out (by rintro k xs ⟨v', y, _, rfl, _⟩; rfl) (fun A B hm hb => ⟨(hb.block _ (lt_of_block hm.1)).trans hm.1, Nat.le_trans hm.2.1 hb.size, hm.2.2.trans (hb.mono hm.2.1)⟩) ⟨hc2, by omega, hbw⟩
    (fun A B C h k => h.trans k) (fun W l o o' hl h ho => K26.put h ho (by omega) o')
    (fun k A => A.heap[w.heap.size + 1]? = some (.cells #[.int .i64 (k : Nat)] 3 (0, 0)) ∧ Below w.heap.size w A) (fun _ _ => False) (box_own (by omega) (by omega) (fun k => .int .i64 (k : Nat))) (fun _ _ _ _ hs _ _ => hs) ⟨hc1, hbw⟩
    (fun xs a' _ => a' = { tmps := #[.agg #[.int .i64 v.op, .int .i64 v.num, .string v.tx, .slice v.pa v.pl v.pc, .slice v.qa v.ql v.qc, .bool v.opn, .slice v.ka v.kl v.kc], .pointer (some ⟨w.heap.size, 0, none⟩), .int .i64 0, .pointer (some ⟨w.heap.size + 1, 0, none⟩), .agg #[.int .i64 v.op, .int .i64 v.num, .string v.tx, .slice v.pa v.pl v.pc, .slice v.qa v.ql v.qc, .bool v.opn, .slice v.ka v.kl v.kc], .func (.func 28) #[] #[.pointer (some ⟨w.heap.size + 1 + 1, 0, none⟩)], xs.getD 0 undef, undef, undef, undef], defers := [] }) (fun _ _ _ _ _ _ h _ _ => h) ?assign ?body ?done ?stop
  case assign =>
    rintro l k xs W K hI hk ⟨v', y, hy, rfl, hv⟩ hK
    clear HIT hbw hc1 hc2
    gi_wp2
    exact hK _ _ (KeepsFrom.refl _ _) (K26.refl _ _) hI (by simp)
  case body =>
    rintro l k xs a' W ⟨h1, h2⟩ rfl hk ⟨v', y, hy, rfl, hv⟩
    have hc := cells_of h1 0
    have hf := cells_free h1 0
    have H1 := Lib.hid h1
    have H2 := Lib.hid h2
    clear HIT hbw hc1 hc2 hy hv h1 h2
    gi_wp2
    exact ⟨(KeepsOthers.setCell _ _ _).from _, K26.set H1.out (by omega) (by decide) _, set_same H1.out, H2.out.setCell (p := ⟨w.heap.size + 1, 0, none⟩) (by show w.heap.size ≤ w.heap.size + 1; omega) _⟩
  case done =>
    rintro D W hD ⟨h1, h2⟩ hd
    have hc := cells_of h1 0
    have H2 := Lib.hid h2
    have HDD := Lib.hid hd
    clear HIT hbw hc1 hc2 h1 h2 hd
    gi_wp2
    refine ⟨by simp, .inl ⟨_, _, rfl, run_takeDeferred HDD.out, ?_⟩⟩
    exact ⟨_, results_tmp rfl _ _ _, rfl, H2.out.grown (grownBy_putObj' W D _) H2.out.size (fun k e => by cases e; omega)⟩
  case stop =>
    rintro D c W hD h _
    exact h.elim
end Go.Proofs.YtigdibglkejciaaDoor.Ex
