/-
  The page's example.
-/
import Derived.Test.YtigdibglkejciaaDoorE37
namespace Go.Proofs.YtigdibglkejciaaDoor.Ex
open Go.RowKit Go
set_option linter.unusedSimpArgs false

def cE : Ex 1 := (⟨9, 0, ⟨#[]⟩, false⟩, [⟨#[99]⟩], [], [])
def aE : Ex 2 := (⟨9, 0, ⟨#[]⟩, false⟩, [⟨#[97]⟩, ⟨#[98]⟩], [], [])
def stE : Ex 2 := (⟨10, 0, ⟨#[]⟩, false⟩, [], [(⟨#[120]⟩, cE)], [])
/-- a.b & {x: c}. -/
def sampleE : Ex 3 := (⟨11, 0, ⟨#[]⟩, false⟩, [], [], [aE, stE])
theorem sample_len : (allE 3 sampleE).length = 4 := by rfl
theorem sample_cnt : cnt 3 sampleE ≤ 200 := by decide
theorem sample_deep : depthE 3 sampleE = 3 := by rfl
theorem sample_ref : refsL (allE 3 sampleE) = [⟨#[97]⟩, ⟨#[99]⟩] := by rfl
theorem sample_right : checkE 3 sampleE = 0 := by kernel_rfl
theorem one_small (l : List ByteArray) (h : ∀ s ∈ l, s.size ≤ 400) : ∀ i (h : i < l.length), (l[i]).size ≤ 400 := fun _ hi => h _ (List.getElem_mem hi)
theorem cE_small : SmallE 1 1 cE := ⟨by decide, by decide, by decide, by decide, by decide, one_small _ (by decide), fun i h => absurd (show i < 0 from h) (Nat.not_lt_zero i), fun i h => absurd (show i < 0 from h) (Nat.not_lt_zero i)⟩
theorem aE_small : SmallE 2 2 aE := ⟨by decide, by decide, by decide, by decide, by decide, one_small _ (by decide), fun i h => absurd (show i < 0 from h) (Nat.not_lt_zero i), fun i h => absurd (show i < 0 from h) (Nat.not_lt_zero i)⟩
theorem stE_small : SmallE 2 2 stE := by
  refine ⟨by decide, by decide, by decide, by decide, by decide, fun i h => absurd (show i < 0 from h) (Nat.not_lt_zero i), fun i h => ?_, fun i h => absurd (show i < 0 from h) (Nat.not_lt_zero i)⟩
  have hi2 : i < 1 := h
  have : i = 0 := by omega
  subst this
  exact ⟨show (⟨#[120]⟩ : ByteArray).size ≤ 400 by decide, cE_small⟩
theorem sample_small : SmallE 3 3 sampleE := by
  refine ⟨by decide, by decide, by decide, by decide, by decide, fun i h => absurd (show i < 0 from h) (Nat.not_lt_zero i), fun i h => absurd (show i < 0 from h) (Nat.not_lt_zero i), fun i h => ?_⟩
  have hi2 : i < 2 := h
  have : i = 0 ∨ i = 1 := by omega
  rcases this with rfl | rfl
  · exact aE_small
  · exact stE_small
def SamplePost (w : World) (e : Ending) (w' : World) : Prop := ∃ v : V7, e = .returned (.agg #[.int .i64 v.op, .int .i64 v.num, .string v.tx, .slice v.pa v.pl v.pc, .slice v.qa v.ql v.qc, .bool v.opn, .slice v.ka v.kl v.kc]) ∧ ExIn w' w'.heap.size 3 v sampleE ∧ Below w.heap.size w w'
set_option maxRecDepth 100000 in
set_option maxHeartbeats 4000000 in
theorem sample_any (w : World) : Calls Tryd.prog 26 #[] w (SamplePost w) := by
  go_enter Tryd.func26, Tryd.ntmps26
  go_wp2
  have n0 := new_cells w #[.int .i64 11, .int .i64 0, .string ⟨#[]⟩, .slice none 0 0, .slice none 0 0, .bool false, .slice (some ⟨w.heap.size + 1 + 1 + 1 + 1 + 1 + 1, 0, none⟩) 2 2] 26
  have b0 := bel1 w (.cells #[.int .i64 11, .int .i64 0, .string ⟨#[]⟩, .slice none 0 0, .slice none 0 0, .bool false, .slice (some ⟨w.heap.size + 1 + 1 + 1 + 1 + 1 + 1, 0, none⟩) 2 2] 26)
  have z0 : (w.alloc (.cells #[.int .i64 11, .int .i64 0, .string ⟨#[]⟩, .slice none 0 0, .slice none 0 0, .bool false, .slice (some ⟨w.heap.size + 1 + 1 + 1 + 1 + 1 + 1, 0, none⟩) 2 2] 26)).heap.size = w.heap.size + 1 := by rw [World.size_alloc]
  generalize w.alloc (.cells #[.int .i64 11, .int .i64 0, .string ⟨#[]⟩, .slice none 0 0, .slice none 0 0, .bool false, .slice (some ⟨w.heap.size + 1 + 1 + 1 + 1 + 1 + 1, 0, none⟩) 2 2] 26) = A1 at n0 b0 z0 ⊢
  have n1 := new_cells A1 #[.string ⟨#[97]⟩, .string ⟨#[98]⟩] 9
  have b1 := bel1 A1 (.cells #[.string ⟨#[97]⟩, .string ⟨#[98]⟩] 9)
  have z1 : (A1.alloc (.cells #[.string ⟨#[97]⟩, .string ⟨#[98]⟩] 9)).heap.size = w.heap.size + 1 + 1 := by rw [World.size_alloc]; rw [z0]
  rw [z0] at n1 b1
  generalize A1.alloc (.cells #[.string ⟨#[97]⟩, .string ⟨#[98]⟩] 9) = A2 at n1 b1 z1 ⊢
  have n2 := new_cells A2 #[.int .i64 9, .int .i64 0, .string ⟨#[]⟩, .slice (some ⟨w.heap.size + 1, 0, none⟩) 2 2, .slice none 0 0, .bool false, .slice none 0 0] 26
  have b2 := bel1 A2 (.cells #[.int .i64 9, .int .i64 0, .string ⟨#[]⟩, .slice (some ⟨w.heap.size + 1, 0, none⟩) 2 2, .slice none 0 0, .bool false, .slice none 0 0] 26)
  have z2 : (A2.alloc (.cells #[.int .i64 9, .int .i64 0, .string ⟨#[]⟩, .slice (some ⟨w.heap.size + 1, 0, none⟩) 2 2, .slice none 0 0, .bool false, .slice none 0 0] 26)).heap.size = w.heap.size + 1 + 1 + 1 := by rw [World.size_alloc]; rw [z1]
  rw [z1] at n2 b2
  generalize A2.alloc (.cells #[.int .i64 9, .int .i64 0, .string ⟨#[]⟩, .slice (some ⟨w.heap.size + 1, 0, none⟩) 2 2, .slice none 0 0, .bool false, .slice none 0 0] 26) = A3 at n2 b2 z2 ⊢
  have n3 := new_cells A3 #[.string ⟨#[99]⟩] 9
  have b3 := bel1 A3 (.cells #[.string ⟨#[99]⟩] 9)
  have z3 : (A3.alloc (.cells #[.string ⟨#[99]⟩] 9)).heap.size = w.heap.size + 1 + 1 + 1 + 1 := by rw [World.size_alloc]; rw [z2]
  rw [z2] at n3 b3
  generalize A3.alloc (.cells #[.string ⟨#[99]⟩] 9) = A4 at n3 b3 z3 ⊢
  have n4 := new_cells A4 #[.int .i64 9, .int .i64 0, .string ⟨#[]⟩, .slice (some ⟨w.heap.size + 1 + 1 + 1, 0, none⟩) 1 1, .slice none 0 0, .bool false, .slice none 0 0] 26
  have b4 := bel1 A4 (.cells #[.int .i64 9, .int .i64 0, .string ⟨#[]⟩, .slice (some ⟨w.heap.size + 1 + 1 + 1, 0, none⟩) 1 1, .slice none 0 0, .bool false, .slice none 0 0] 26)
  have z4 : (A4.alloc (.cells #[.int .i64 9, .int .i64 0, .string ⟨#[]⟩, .slice (some ⟨w.heap.size + 1 + 1 + 1, 0, none⟩) 1 1, .slice none 0 0, .bool false, .slice none 0 0] 26)).heap.size = w.heap.size + 1 + 1 + 1 + 1 + 1 := by rw [World.size_alloc]; rw [z3]
  rw [z3] at n4 b4
  generalize A4.alloc (.cells #[.int .i64 9, .int .i64 0, .string ⟨#[]⟩, .slice (some ⟨w.heap.size + 1 + 1 + 1, 0, none⟩) 1 1, .slice none 0 0, .bool false, .slice none 0 0] 26) = A5 at n4 b4 z4 ⊢
  have n5 := new_cells A5 #[.string ⟨#[120]⟩, .int .i64 9, .int .i64 0, .string ⟨#[]⟩, .slice (some ⟨w.heap.size + 1 + 1 + 1, 0, none⟩) 1 1, .slice none 0 0, .bool false, .slice none 0 0] 46
  have b5 := bel1 A5 (.cells #[.string ⟨#[120]⟩, .int .i64 9, .int .i64 0, .string ⟨#[]⟩, .slice (some ⟨w.heap.size + 1 + 1 + 1, 0, none⟩) 1 1, .slice none 0 0, .bool false, .slice none 0 0] 46)
  have z5 : (A5.alloc (.cells #[.string ⟨#[120]⟩, .int .i64 9, .int .i64 0, .string ⟨#[]⟩, .slice (some ⟨w.heap.size + 1 + 1 + 1, 0, none⟩) 1 1, .slice none 0 0, .bool false, .slice none 0 0] 46)).heap.size = w.heap.size + 1 + 1 + 1 + 1 + 1 + 1 := by rw [World.size_alloc]; rw [z4]
  rw [z4] at n5 b5
  generalize A5.alloc (.cells #[.string ⟨#[120]⟩, .int .i64 9, .int .i64 0, .string ⟨#[]⟩, .slice (some ⟨w.heap.size + 1 + 1 + 1, 0, none⟩) 1 1, .slice none 0 0, .bool false, .slice none 0 0] 46) = A6 at n5 b5 z5 ⊢
  have n6 := new_cells A6 #[.int .i64 9, .int .i64 0, .string ⟨#[]⟩, .slice (some ⟨w.heap.size + 1, 0, none⟩) 2 2, .slice none 0 0, .bool false, .slice none 0 0, .int .i64 10, .int .i64 0, .string ⟨#[]⟩, .slice none 0 0, .slice (some ⟨w.heap.size + 1 + 1 + 1 + 1 + 1, 0, none⟩) 1 1, .bool false, .slice none 0 0] 26
  have b6 := bel1 A6 (.cells #[.int .i64 9, .int .i64 0, .string ⟨#[]⟩, .slice (some ⟨w.heap.size + 1, 0, none⟩) 2 2, .slice none 0 0, .bool false, .slice none 0 0, .int .i64 10, .int .i64 0, .string ⟨#[]⟩, .slice none 0 0, .slice (some ⟨w.heap.size + 1 + 1 + 1 + 1 + 1, 0, none⟩) 1 1, .bool false, .slice none 0 0] 26)
  have z6 : (A6.alloc (.cells #[.int .i64 9, .int .i64 0, .string ⟨#[]⟩, .slice (some ⟨w.heap.size + 1, 0, none⟩) 2 2, .slice none 0 0, .bool false, .slice none 0 0, .int .i64 10, .int .i64 0, .string ⟨#[]⟩, .slice none 0 0, .slice (some ⟨w.heap.size + 1 + 1 + 1 + 1 + 1, 0, none⟩) 1 1, .bool false, .slice none 0 0] 26)).heap.size = w.heap.size + 1 + 1 + 1 + 1 + 1 + 1 + 1 := by rw [World.size_alloc]; rw [z5]
  rw [z5] at n6 b6
  generalize A6.alloc (.cells #[.int .i64 9, .int .i64 0, .string ⟨#[]⟩, .slice (some ⟨w.heap.size + 1, 0, none⟩) 2 2, .slice none 0 0, .bool false, .slice none 0 0, .int .i64 10, .int .i64 0, .string ⟨#[]⟩, .slice none 0 0, .slice (some ⟨w.heap.size + 1 + 1 + 1 + 1 + 1, 0, none⟩) 1 1, .bool false, .slice none 0 0] 26) = A7 at n6 b6 z6 ⊢
  have hbw : Below w.heap.size w A7 := (((((b0.trans (b1.mono (by omega))).trans (b2.mono (by omega))).trans (b3.mono (by omega))).trans (b4.mono (by omega))).trans (b5.mono (by omega))).trans (b6.mono (by omega))
  have h0 := (b6.block _ (by omega)).trans ((b5.block _ (by omega)).trans ((b4.block _ (by omega)).trans ((b3.block _ (by omega)).trans ((b2.block _ (by omega)).trans ((b1.block _ (by omega)).trans (n0))))))
  have h1 := (b6.block _ (by omega)).trans ((b5.block _ (by omega)).trans ((b4.block _ (by omega)).trans ((b3.block _ (by omega)).trans ((b2.block _ (by omega)).trans (n1)))))
  have h3 := (b6.block _ (by omega)).trans ((b5.block _ (by omega)).trans ((b4.block _ (by omega)).trans (n3)))
  have h5 := (b6.block _ (by omega)).trans (n5)
  have h6 := n6
  have hsz := z6
  generalize A7 = W at hbw h0 h1 h3 h5 h6 hsz ⊢
  have c0 := cells_of h0
  have c1 := cells_of h1
  have c3 := cells_of h3
  have c5 := cells_of h5
  have c6 := cells_of h6
  refine bodyPost_ret (v := .agg #[.int .i64 11, .int .i64 0, .string ⟨#[]⟩, .slice none 0 0, .slice none 0 0, .bool false, .slice (some ⟨w.heap.size + 1 + 1 + 1 + 1 + 1 + 1, 0, none⟩) 2 2]) (by simp [results, Tryd.results26, go_sem, c0]) rfl ?_
  refine ⟨⟨11, 0, ⟨#[]⟩, none, 0, 0, none, 0, 0, false, some ⟨w.heap.size + 1 + 1 + 1 + 1 + 1 + 1, 0, none⟩, 2, 2⟩, rfl, ?_, hbw⟩
  have leaf : ExIn W W.heap.size 1 ⟨9, 0, ⟨#[]⟩, some ⟨w.heap.size + 1 + 1 + 1, 0, none⟩, 1, 1, none, 0, 0, false, none, 0, 0⟩ cE :=
    ⟨rfl, rfl, rfl, rfl, ⟨rfl, by decide, fun _ => ⟨_, 0, rfl, by omega, fun i hi => by
      have : i = 0 := by simp [cE] at hi; omega
      subst this
      exact c3 0⟩⟩, ⟨rfl, by decide, fun h => absurd h (by decide)⟩, ⟨rfl, by decide, fun h => absurd h (by decide)⟩⟩
  have lefta : ExIn W W.heap.size 2 ⟨9, 0, ⟨#[]⟩, some ⟨w.heap.size + 1, 0, none⟩, 2, 2, none, 0, 0, false, none, 0, 0⟩ aE :=
    ⟨rfl, rfl, rfl, rfl, ⟨rfl, by decide, fun _ => ⟨_, 0, rfl, by omega, fun i hi => by
      have hi2 : i < 2 := hi
      have : i = 0 ∨ i = 1 := by omega
      rcases this with rfl | rfl
      · exact c1 0
      · exact c1 1⟩⟩, ⟨rfl, by decide, fun h => absurd h (by decide)⟩, ⟨rfl, by decide, fun h => absurd h (by decide)⟩⟩
  have st : ExIn W W.heap.size 2 ⟨10, 0, ⟨#[]⟩, none, 0, 0, some ⟨w.heap.size + 1 + 1 + 1 + 1 + 1, 0, none⟩, 1, 1, false, none, 0, 0⟩ stE :=
    ⟨rfl, rfl, rfl, rfl, ⟨rfl, by decide, fun h => absurd h (by decide)⟩, ⟨rfl, by decide, fun _ => ⟨_, 0, rfl, by omega, fun i hi => by
      have hi2 : i < 1 := hi
      have : i = 0 := by omega
      subst this
      exact ⟨⟨9, 0, ⟨#[]⟩, some ⟨w.heap.size + 1 + 1 + 1, 0, none⟩, 1, 1, none, 0, 0, false, none, 0, 0⟩, c5 0, ⟨c5 1, c5 2, c5 3, c5 4, c5 5, c5 6, c5 7⟩, leaf⟩⟩⟩, ⟨rfl, by decide, fun h => absurd h (by decide)⟩⟩
  exact ⟨rfl, rfl, rfl, rfl, ⟨rfl, by decide, fun h => absurd h (by decide)⟩, ⟨rfl, by decide, fun h => absurd h (by decide)⟩, ⟨rfl, by decide, fun _ => ⟨_, 0, rfl, by omega, fun i hi => by
    have hi2 : i < 2 := hi
    have : i = 0 ∨ i = 1 := by omega
    rcases this with rfl | rfl
    · exact ⟨⟨9, 0, ⟨#[]⟩, some ⟨w.heap.size + 1, 0, none⟩, 2, 2, none, 0, 0, false, none, 0, 0⟩, ⟨c6 0, c6 1, c6 2, c6 3, c6 4, c6 5, c6 6⟩, lefta⟩
    · exact ⟨⟨10, 0, ⟨#[]⟩, none, 0, 0, some ⟨w.heap.size + 1 + 1 + 1 + 1 + 1, 0, none⟩, 1, 1, false, none, 0, 0⟩, ⟨c6 7, c6 8, c6 9, c6 10, c6 11, c6 12, c6 13⟩, st⟩⟩⟩⟩
theorem sample_size (w : World) (v : V7) (hx : ExIn w w.heap.size 3 v sampleE) : Calls Tryd.prog 21 #[.agg #[.int .i64 v.op, .int .i64 v.num, .string v.tx, .slice v.pa v.pl v.pc, .slice v.qa v.ql v.qc, .bool v.opn, .slice v.ka v.kl v.kc]] w fun e w' => e = .returned (.int .i64 4) ∧ Below w.heap.size w w' :=
  (size_any 3 w v sampleE 3 sample_small sample_cnt hx).mono fun e w' h => by rw [sample_len] at h; exact h
theorem sample_depth (w : World) (v : V7) (hx : ExIn w w.heap.size 3 v sampleE) : Calls Tryd.prog 22 #[.agg #[.int .i64 v.op, .int .i64 v.num, .string v.tx, .slice v.pa v.pl v.pc, .slice v.qa v.ql v.qc, .bool v.opn, .slice v.ka v.kl v.kc]] w fun e w' => e = .returned (.int .i64 3) ∧ Below w.heap.size w w' :=
  (depth_ok 3 w w.heap.size v sampleE 3 (Nat.le_refl _) (by omega) sample_small hx).mono fun e w' h => by rw [sample_deep] at h; exact h
theorem sample_check (w : World) (v : V7) (hW : Words w) (hx : ExIn w w.heap.size 3 v sampleE) : Calls Tryd.prog 19 #[.agg #[.int .i64 v.op, .int .i64 v.num, .string v.tx, .slice v.pa v.pl v.pc, .slice v.qa v.ql v.qc, .bool v.opn, .slice v.ka v.kl v.kc]] w fun e w' => e = .returned (.int .i64 0) ∧ Below w.heap.size w w' :=
  (check_any 3 w w.heap.size v sampleE 3 (Nat.le_refl _) (by omega) hW sample_small hx).mono fun e w' h => by rw [sample_right] at h; exact h
theorem sample_refs (w : World) (v : V7) (hx : ExIn w w.heap.size 3 v sampleE) : Calls Tryd.prog 12 #[.agg #[.int .i64 v.op, .int .i64 v.num, .string v.tx, .slice v.pa v.pl v.pc, .slice v.qa v.ql v.qc, .bool v.opn, .slice v.ka v.kl v.kc]] w fun e w' => (∃ g off cap, e = .returned (.slice (some ⟨g, off, none⟩) 2 cap) ∧ g < w'.heap.size ∧ w'.cell? ⟨g, off + 1, none⟩ = some (.string ⟨#[99]⟩)) ∧ Below w.heap.size w w' :=
  (refs_any 3 w v sampleE 3 sample_small sample_cnt hx).mono fun e w' h => by
    obtain ⟨a, cap, e1, h2, h3⟩ := h
    rw [sample_ref] at e1 h2
    obtain ⟨g, off, ea, hg, hc⟩ := h2.2.2 (by decide)
    subst ea
    exact ⟨⟨g, off, cap, e1, hg, hc 1 (by decide)⟩, h3⟩
set_option maxRecDepth 100000 in
set_option maxHeartbeats 8000000 in
theorem awake_any (w : World) (hW : Words w) : Calls Tryd.prog 7 #[] w fun e w' => e = .returned (.bool true) ∧ Below w.heap.size w w' := by
  have hp0 := hW.pos
  have HW := Lib.hid hW
  clear hW
  have hacc : Below w.heap.size w w := Below.refl _ _
  go_enter Tryd.func7, Tryd.ntmps7
  go_wp2_with (first
    | (go_at_call 26; (with_reducible refine (sample_any _).mono ?_); rintro e w1 ⟨v1, rfl, hx1, hb1⟩; (try replace hcg := (hb1.cell (p := ⟨g, off + 1, none⟩) hg).trans hcg); (try have hg2 := Nat.lt_of_lt_of_le hg hb1.size); (try clear hg); (try have hg := hg2); (try clear hg2); replace hacc := hacc.trans (hb1.mono hacc.size); clear hb1)
    | (go_at_call 12; (with_reducible refine (sample_refs _ _ hx1).mono ?_); rintro e w2 ⟨⟨g, off, cap, rfl, hg, hcg⟩, hb2⟩; clear hx1; replace hacc := hacc.trans (hb2.mono hacc.size); clear hb2)
    | (go_at_call 21; (with_reducible refine (sample_size _ _ hx1).mono ?_); rintro e w2 ⟨rfl, hb2⟩; clear hx1; replace hcg := (hb2.cell (p := ⟨g, off + 1, none⟩) hg).trans hcg; have hg2 := Nat.lt_of_lt_of_le hg hb2.size; clear hg; have hg := hg2; clear hg2; replace hacc := hacc.trans (hb2.mono hacc.size); clear hb2)
    | (go_at_call 22; (with_reducible refine (sample_depth _ _ hx1).mono ?_); rintro e w2 ⟨rfl, hb2⟩; clear hx1; replace hcg := (hb2.cell (p := ⟨g, off + 1, none⟩) hg).trans hcg; have hg2 := Nat.lt_of_lt_of_le hg hb2.size; clear hg; have hg := hg2; clear hg2; replace hacc := hacc.trans (hb2.mono hacc.size); clear hb2)
    | (go_at_call 19; (with_reducible refine (sample_check _ _ (HW.out.below hacc hp0) hx1).mono ?_); rintro e w2 ⟨rfl, hb2⟩; clear hx1; replace hacc := hacc.trans (hb2.mono hacc.size); clear hb2))
  go_ret
  exact ⟨rfl, hacc⟩
end Go.Proofs.YtigdibglkejciaaDoor.Ex
