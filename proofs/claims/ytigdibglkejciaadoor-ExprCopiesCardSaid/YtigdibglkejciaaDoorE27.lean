/-
  Names that rise: in the program.
-/
import Derived.Test.YtigdibglkejciaaDoorE26
namespace Go.Proofs.YtigdibglkejciaaDoor.Ex
open Go.RowKit Go
set_option linter.unusedSimpArgs false

set_option maxRecDepth 100000 in
set_option maxHeartbeats 8000000 in
theorem rising_any (n B : Nat) (a : Option Addr) (len c : Nat) (l : List (ByteArray × Ex n)) (w : World) (hB : B ≤ w.heap.size) (hW : Words w) (hl : PairsIn (ExIn w B n) w B a len l) : Calls Tryd.prog 49 #[.slice a len c] w fun e w' => e = .returned (.bool (rising (l.map (·.1)))) ∧ Below w.heap.size w w' := by
  have HW := Lib.hid hW
  have hp0 := hW.pos
  have HL := Lib.hid hl
  have LQ := Lib.hid hl.1
  have hm3 : len ≤ 9223372036854775807 := by have := hl.1; have := hl.2.1; unfold maxLen at this; omega
  clear hl hW
  obtain ⟨q, hq⟩ : ∃ q, l.map (·.1) = q := ⟨_, rfl⟩
  have hql : q.length = l.length := by rw [← hq, List.length_map]
  have HQ : Hid (∀ i (h : i < l.length) (h' : i < q.length), l[i].1 = q[i]) := Lib.hid (fun i h h' => by subst hq; simp)
  have LI : Hid (len = q.length) := Lib.hid (by have := LQ.out; omega)
  rw [hq]
  clear hq hql
  go_enter Tryd.func49, Tryd.ntmps49
  go_wp2
  go_loopw [7] (fun i wr => ∃ k : Nat, k ≤ len ∧ i = .int .i64 k ∧ Below w.heap.size w wr ∧ Hid (∀ i, i < k → (h : i < q.length) → okR q i h = true)) (fun i _ => len - (intOf i).toNat)
  case atStart => exact ⟨0, Nat.zero_le _, rfl, Below.refl _ _, fun i h => by omega⟩
  case round =>
    obtain ⟨k, hk, rfl, hbel, hok⟩ := hrel
    have hs2 := hbel.size
    by_cases hlt : k < len
    · have hkl : k < l.length := by have := LQ.out; omega
      have hlt2 : k < q.length := by have := LI.out; omega
      obtain ⟨g, off, rfl, hg, hc⟩ := HL.out.2.2 (by omega)
      obtain ⟨v1, hcn, hE, hI⟩ := hc k hkl
      have c0 : wr.cell? ⟨g, off + k * 8, none⟩ = _ := (hbel.cell (p := ⟨g, _, none⟩) (by show g < w.heap.size; omega)).trans hcn
      rw [HQ.out k hkl hlt2] at c0
      obtain ⟨d0, d1, d2, d3, d4, d5, d6⟩ := hE.kept (W' := wr) (fun o => hbel.cell (p := ⟨g, o, none⟩) (by show g < w.heap.size; omega))
      have i1 : (0 : Int) ≤ (k : Int) := by omega
      have i2 : (k : Int) < (len : Int) := by omega
      have hg1 : g < wr.heap.size := by omega
      have hyes : Hid (okR q k hlt2 = true → ∀ i, i < k + 1 → (h : i < q.length) → okR q i h = true) := Lib.hid (fun hr i hi h => (Nat.lt_succ_iff_lt_or_eq.1 hi).elim (fun h' => hok.out i h' h) (fun e => by subst e; exact hr))
      have hno : Hid (okR q k hlt2 = false → rising q = false) := Lib.hid (fun hr => rising_no k hlt2 hr)
      obtain ⟨b, hb⟩ : ∃ b, right q[k] = b := ⟨_, rfl⟩
      have hRw : ∀ W, Below w.heap.size w W → Calls Tryd.prog 53 #[.string q[k]] W fun e w' => e = .returned (.bool b) ∧ Below W.heap.size W w' := fun W h => hb ▸ right_any q[k] W (HW.out.below h hp0)
      have hbx : Below wr.heap.size wr (wr.alloc (.cells #[.string q[k], .int .i64 v1.op, .int .i64 v1.num, .string v1.tx, .slice v1.pa v1.pl v1.pc, .slice v1.qa v1.ql v1.qc, .bool v1.opn, .slice v1.ka v1.kl v1.kc] 46)) := bel1 _ _
      have NB := Lib.hid (new_cells wr #[.string q[k], .int .i64 v1.op, .int .i64 v1.num, .string v1.tx, .slice v1.pa v1.pl v1.pc, .slice v1.qa v1.ql v1.qc, .bool v1.opn, .slice v1.ka v1.kl v1.kc] 46)
      have HR0 : Hid (∀ W, Below (wr.alloc (.cells #[.string q[k], .int .i64 v1.op, .int .i64 v1.num, .string v1.tx, .slice v1.pa v1.pl v1.pc, .slice v1.qa v1.ql v1.qc, .bool v1.opn, .slice v1.ka v1.kl v1.kc] 46)).heap.size (wr.alloc (.cells #[.string q[k], .int .i64 v1.op, .int .i64 v1.num, .string v1.tx, .slice v1.pa v1.pl v1.pc, .slice v1.qa v1.ql v1.qc, .bool v1.opn, .slice v1.ka v1.kl v1.kc] 46)) W → Calls Tryd.prog 53 #[.string q[k]] W fun e w' => e = .returned (.bool b) ∧ Below W.heap.size W w') := Lib.hid (fun W hW => hRw W ((hbel.trans (hbx.mono hs2)).trans (hW.mono (by have := hbx.size; omega))))
      cases b
      · have hRR := Lib.hid (hno.out (okR_no k hlt2 hb))
        generalize q[k] = nm at c0 HR0 NB hbx
        clear hyes hno hok hc hb hcn hE hI hRw
        go_wp2
        generalize wr.alloc (.cells #[.string nm, .int .i64 v1.op, .int .i64 v1.num, .string v1.tx, .slice v1.pa v1.pl v1.pc, .slice v1.qa v1.ql v1.qc, .bool v1.opn, .slice v1.ka v1.kl v1.kc] 46) = w1 at hbx NB HR0 ⊢
        have hsx := hbx.size
        have hB0 : wr.heap.size < w1.heap.size := (Array.getElem?_eq_some_iff.1 NB.out).1
        have hg2 : g < w1.heap.size := by omega
        have HR := HR0
        have cB : w1.cell? ⟨wr.heap.size, 0, none⟩ = some (.string nm) := cells_of NB.out 0
        have hS := SB.refl w1
        have hbq := hbel.trans (hbx.mono hs2)
        have hsq := hbq.size
        clear HR0
        refine wp_region_held_drew (S := SB w1) (by kernel_rfl) ?_ (fun hH => ?_)
        · (first | (with_reducible assumption) | (with_reducible exact SB.drew (by assumption)) | (with_reducible exact SB.below (by assumption) (by assumption)))
        refine wpAnyH_take (i := 0) (v := ?_) rfl (by kernel_rfl) (by kernel_rfl) (by kernel_rfl) (fun _ _ _ h => h) (Or.inl ⟨by rfl, ?_⟩) (by assumption) ?_
        rotate_left; focus (intro w hSw; (try dsimp only at hSw); go_simp; try with_reducible rfl)
        (try simp only [List.getElem_toArray, List.getElem_cons_succ, List.getElem_cons_zero, Act.put, List.setIfInBounds_toArray, List.set_cons_zero, List.set_cons_succ])
        refine wpAnyH_take (i := 1) (v := ?_) rfl (by kernel_rfl) (by kernel_rfl) (by kernel_rfl) (fun _ _ _ h => h) (Or.inl ⟨by rfl, ?_⟩) (by assumption) ?_
        rotate_left; focus (intro w hSw; (try dsimp only at hSw); go_simp; try with_reducible rfl)
        (try simp only [List.getElem_toArray, List.getElem_cons_succ, List.getElem_cons_zero, Act.put, List.setIfInBounds_toArray, List.set_cons_zero, List.set_cons_succ])
        refine wpAnyH_ready (rs := [2]) (by kernel_rfl) (by simp) ?_
        refine AllReadyH.cons rfl (fun K hK => ?_) ?_
        · go_simp
          go_at_call 53
          (with_reducible refine (HR.out _ (by exact (by assumption : SB w1 _).2)).mono ?_)
          rintro e w6 ⟨rfl, hb6⟩
          go_wp2_with fail
          refine hK.out _ _ ?_ (fun hH2 => ?_)
          · (first | (with_reducible assumption) | (with_reducible exact SB.drew (by assumption)) | (with_reducible exact SB.below (by assumption) (by assumption)))
          clear hK K hH
          have hH := hH2; clear hH2
          (try simp only [List.getElem_toArray, List.getElem_cons_succ, List.getElem_cons_zero, Act.put, List.setIfInBounds_toArray, List.set_cons_zero, List.set_cons_succ])
          refine wpAnyH_take (i := 3) (v := ?_) rfl (by kernel_rfl) (by kernel_rfl) (by kernel_rfl) (fun _ _ _ h => h) (Or.inl ⟨by rfl, ?_⟩) (by assumption) ?_
          rotate_left; focus (intro w hSw; (try dsimp only at hSw); go_simp; try with_reducible rfl)
          (try simp only [List.getElem_toArray, List.getElem_cons_succ, List.getElem_cons_zero, Act.put, List.setIfInBounds_toArray, List.set_cons_zero, List.set_cons_succ])
          refine wpAnyH_take (i := 4) (v := ?_) rfl (by kernel_rfl) (by kernel_rfl) (by kernel_rfl) (fun _ _ _ h => h) (Or.inl ⟨by rfl, ?_⟩) (by assumption) ?_
          rotate_left; focus (intro w hSw; (try dsimp only at hSw); go_simp; try with_reducible rfl)
          (try simp only [List.getElem_toArray, List.getElem_cons_succ, List.getElem_cons_zero, Act.put, List.setIfInBounds_toArray, List.set_cons_zero, List.set_cons_succ])
          refine wpAnyH_take (i := 5) (v := undef) rfl (by kernel_rfl) (by kernel_rfl) (by kernel_rfl) (fun _ _ _ h => h) (Or.inr ⟨by rfl, rfl⟩) (by assumption) ?_
          (try simp only [List.getElem_toArray, List.getElem_cons_succ, List.getElem_cons_zero, Act.put, List.setIfInBounds_toArray, List.set_cons_zero, List.set_cons_succ])
          refine wpAnyH_take (i := 6) (v := undef) rfl (by kernel_rfl) (by kernel_rfl) (by kernel_rfl) (fun _ _ _ h => h) (Or.inr ⟨by rfl, rfl⟩) (by assumption) ?_
          (try simp only [List.getElem_toArray, List.getElem_cons_succ, List.getElem_cons_zero, Act.put, List.setIfInBounds_toArray, List.set_cons_zero, List.set_cons_succ])
          refine wpAnyH_take (i := 7) (v := undef) rfl (by kernel_rfl) (by kernel_rfl) (by kernel_rfl) (fun _ _ _ h => h) (Or.inr ⟨by rfl, rfl⟩) (by assumption) ?_
          (try simp only [List.getElem_toArray, List.getElem_cons_succ, List.getElem_cons_zero, Act.put, List.setIfInBounds_toArray, List.set_cons_zero, List.set_cons_succ])
          refine wpAnyH_take (i := 8) (v := undef) rfl (by kernel_rfl) (by kernel_rfl) (by kernel_rfl) (fun _ _ _ h => h) (Or.inr ⟨by rfl, rfl⟩) (by assumption) ?_
          (try simp only [List.getElem_toArray, List.getElem_cons_succ, List.getElem_cons_zero, Act.put, List.setIfInBounds_toArray, List.set_cons_zero, List.set_cons_succ])
          refine wpAnyH_take (i := 9) (v := undef) rfl (by kernel_rfl) (by kernel_rfl) (by kernel_rfl) (fun _ _ _ h => h) (Or.inr ⟨by rfl, rfl⟩) (by assumption) ?_
          (try simp only [List.getElem_toArray, List.getElem_cons_succ, List.getElem_cons_zero, Act.put, List.setIfInBounds_toArray, List.set_cons_zero, List.set_cons_succ])
          refine wpAnyH_take (i := 10) (v := undef) rfl (by kernel_rfl) (by kernel_rfl) (by kernel_rfl) (fun _ _ _ h => h) (Or.inr ⟨by rfl, rfl⟩) (by assumption) ?_
          (try simp only [List.getElem_toArray, List.getElem_cons_succ, List.getElem_cons_zero, Act.put, List.setIfInBounds_toArray, List.set_cons_zero, List.set_cons_succ])
          refine wpAnyH_take (i := 11) (v := undef) rfl (by kernel_rfl) (by kernel_rfl) (by kernel_rfl) (fun _ _ _ h => h) (Or.inr ⟨by rfl, rfl⟩) (by assumption) ?_
          (try simp only [List.getElem_toArray, List.getElem_cons_succ, List.getElem_cons_zero, Act.put, List.setIfInBounds_toArray, List.set_cons_zero, List.set_cons_succ])
          refine wpAnyH_take (i := 12) (v := undef) rfl (by kernel_rfl) (by kernel_rfl) (by kernel_rfl) (fun _ _ _ h => h) (Or.inr ⟨by rfl, rfl⟩) (by assumption) ?_
          (try simp only [List.getElem_toArray, List.getElem_cons_succ, List.getElem_cons_zero, Act.put, List.setIfInBounds_toArray, List.set_cons_zero, List.set_cons_succ])
          refine wpAnyH_take (i := 13) (v := undef) rfl (by kernel_rfl) (by kernel_rfl) (by kernel_rfl) (fun _ _ _ h => h) (Or.inr ⟨by rfl, rfl⟩) (by assumption) ?_
          (try simp only [List.getElem_toArray, List.getElem_cons_succ, List.getElem_cons_zero, Act.put, List.setIfInBounds_toArray, List.set_cons_zero, List.set_cons_succ])
          refine wpAnyH_take (i := 14) (v := undef) rfl (by kernel_rfl) (by kernel_rfl) (by kernel_rfl) (fun _ _ _ h => h) (Or.inr ⟨by rfl, rfl⟩) (by assumption) ?_
          (try simp only [List.getElem_toArray, List.getElem_cons_succ, List.getElem_cons_zero, Act.put, List.setIfInBounds_toArray, List.set_cons_zero, List.set_cons_succ])
          refine wpAnyH_take (i := 15) (v := undef) rfl (by kernel_rfl) (by kernel_rfl) (by kernel_rfl) (fun _ _ _ h => h) (Or.inr ⟨by rfl, rfl⟩) (by assumption) ?_
          (try simp only [List.getElem_toArray, List.getElem_cons_succ, List.getElem_cons_zero, Act.put, List.setIfInBounds_toArray, List.set_cons_zero, List.set_cons_succ])
          refine wpAnyH_take (i := 16) (v := undef) rfl (by kernel_rfl) (by kernel_rfl) (by kernel_rfl) (fun _ _ _ h => h) (Or.inr ⟨by rfl, rfl⟩) (by assumption) ?_
          (try simp only [List.getElem_toArray, List.getElem_cons_succ, List.getElem_cons_zero, Act.put, List.setIfInBounds_toArray, List.set_cons_zero, List.set_cons_succ])
          refine wpAnyH_take (i := 17) (v := undef) rfl (by kernel_rfl) (by kernel_rfl) (by kernel_rfl) (fun _ _ _ h => h) (Or.inr ⟨by rfl, rfl⟩) (by assumption) ?_
          (try simp only [List.getElem_toArray, List.getElem_cons_succ, List.getElem_cons_zero, Act.put, List.setIfInBounds_toArray, List.set_cons_zero, List.set_cons_succ])
          refine wpAnyH_take (i := 18) (v := ?_) rfl (by kernel_rfl) (by kernel_rfl) (by kernel_rfl) (fun _ _ _ h => h) (Or.inl ⟨by rfl, ?_⟩) (by assumption) ?_
          rotate_left; focus (intro w hSw; (try dsimp only at hSw); go_simp; try with_reducible rfl)
          (try simp only [List.getElem_toArray, List.getElem_cons_succ, List.getElem_cons_zero, Act.put, List.setIfInBounds_toArray, List.set_cons_zero, List.set_cons_succ])
          refine wpAnyH_done (by kernel_rfl) ?_ _
          have hbH := hH.2
          clear hH
          go_wp2
          go_ret
          exact ⟨ret_bool hRR.out.symm, hbq.trans (hbH.mono hsq)⟩
        exact AllReadyH.nil
      · by_cases h0 : k = 0
        · subst h0
          have hok2 := Lib.hid (hyes.out (okR_0 hlt2 hb))
          simp only [Nat.zero_mul, Nat.add_zero] at c0 d0 d1 d2 d3 d4 d5 d6
          generalize q[0] = nm at c0 HR0 NB hbx
          clear hyes hno hok hc hb hcn hE hI hRw
          go_wp2
          generalize wr.alloc (.cells #[.string nm, .int .i64 v1.op, .int .i64 v1.num, .string v1.tx, .slice v1.pa v1.pl v1.pc, .slice v1.qa v1.ql v1.qc, .bool v1.opn, .slice v1.ka v1.kl v1.kc] 46) = w1 at hbx NB HR0 ⊢
          have hsx := hbx.size
          have hB0 : wr.heap.size < w1.heap.size := (Array.getElem?_eq_some_iff.1 NB.out).1
          have hg2 : g < w1.heap.size := by omega
          have HR := HR0
          have cB : w1.cell? ⟨wr.heap.size, 0, none⟩ = some (.string nm) := cells_of NB.out 0
          have hS := SB.refl w1
          have hbq := hbel.trans (hbx.mono hs2)
          have hsq := hbq.size
          clear HR0
          refine wp_region_held_drew (S := SB w1) (by kernel_rfl) ?_ (fun hH => ?_)
          · (first | (with_reducible assumption) | (with_reducible exact SB.drew (by assumption)) | (with_reducible exact SB.below (by assumption) (by assumption)))
          refine wpAnyH_take (i := 0) (v := ?_) rfl (by kernel_rfl) (by kernel_rfl) (by kernel_rfl) (fun _ _ _ h => h) (Or.inl ⟨by rfl, ?_⟩) (by assumption) ?_
          rotate_left; focus (intro w hSw; (try dsimp only at hSw); go_simp; try with_reducible rfl)
          (try simp only [List.getElem_toArray, List.getElem_cons_succ, List.getElem_cons_zero, Act.put, List.setIfInBounds_toArray, List.set_cons_zero, List.set_cons_succ])
          refine wpAnyH_take (i := 1) (v := ?_) rfl (by kernel_rfl) (by kernel_rfl) (by kernel_rfl) (fun _ _ _ h => h) (Or.inl ⟨by rfl, ?_⟩) (by assumption) ?_
          rotate_left; focus (intro w hSw; (try dsimp only at hSw); go_simp; try with_reducible rfl)
          (try simp only [List.getElem_toArray, List.getElem_cons_succ, List.getElem_cons_zero, Act.put, List.setIfInBounds_toArray, List.set_cons_zero, List.set_cons_succ])
          refine wpAnyH_ready (rs := [2]) (by kernel_rfl) (by simp) ?_
          refine AllReadyH.cons rfl (fun K hK => ?_) ?_
          · go_simp
            go_at_call 53
            (with_reducible refine (HR.out _ (by exact (by assumption : SB w1 _).2)).mono ?_)
            rintro e w6 ⟨rfl, hb6⟩
            go_wp2_with fail
            refine hK.out _ _ ?_ (fun hH2 => ?_)
            · (first | (with_reducible assumption) | (with_reducible exact SB.drew (by assumption)) | (with_reducible exact SB.below (by assumption) (by assumption)))
            clear hK K hH
            have hH := hH2; clear hH2
            (try simp only [List.getElem_toArray, List.getElem_cons_succ, List.getElem_cons_zero, Act.put, List.setIfInBounds_toArray, List.set_cons_zero, List.set_cons_succ])
            refine wpAnyH_take (i := 3) (v := ?_) rfl (by kernel_rfl) (by kernel_rfl) (by kernel_rfl) (fun _ _ _ h => h) (Or.inl ⟨by rfl, ?_⟩) (by assumption) ?_
            rotate_left; focus (intro w hSw; (try dsimp only at hSw); go_simp; try with_reducible rfl)
            (try simp only [List.getElem_toArray, List.getElem_cons_succ, List.getElem_cons_zero, Act.put, List.setIfInBounds_toArray, List.set_cons_zero, List.set_cons_succ])
            refine wpAnyH_take (i := 4) (v := ?_) rfl (by kernel_rfl) (by kernel_rfl) (by kernel_rfl) (fun _ _ _ h => h) (Or.inl ⟨by rfl, ?_⟩) (by assumption) ?_
            rotate_left; focus (intro w hSw; (try dsimp only at hSw); go_simp; try with_reducible rfl)
            (try simp only [List.getElem_toArray, List.getElem_cons_succ, List.getElem_cons_zero, Act.put, List.setIfInBounds_toArray, List.set_cons_zero, List.set_cons_succ])
            refine wpAnyH_take (i := 5) (v := ?_) rfl (by kernel_rfl) (by kernel_rfl) (by kernel_rfl) (fun _ _ _ h => h) (Or.inl ⟨by rfl, ?_⟩) (by assumption) ?_
            rotate_left; focus (intro w hSw; (try dsimp only at hSw); go_simp; try with_reducible rfl)
            (try simp only [List.getElem_toArray, List.getElem_cons_succ, List.getElem_cons_zero, Act.put, List.setIfInBounds_toArray, List.set_cons_zero, List.set_cons_succ])
            refine wpAnyH_take (i := 6) (v := ?_) rfl (by kernel_rfl) (by kernel_rfl) (by kernel_rfl) (fun _ _ _ h => h) (Or.inl ⟨by rfl, ?_⟩) (by assumption) ?_
            rotate_left; focus (intro w hSw; (try dsimp only at hSw); go_simp; try with_reducible rfl)
            (try simp only [List.getElem_toArray, List.getElem_cons_succ, List.getElem_cons_zero, Act.put, List.setIfInBounds_toArray, List.set_cons_zero, List.set_cons_succ])
            refine wpAnyH_take (i := 7) (v := ?_) rfl (by kernel_rfl) (by kernel_rfl) (by kernel_rfl) (fun _ _ _ h => h) (Or.inl ⟨by rfl, ?_⟩) (by assumption) ?_
            rotate_left; focus (intro w hSw; (try dsimp only at hSw); go_simp; try with_reducible rfl)
            (try simp only [List.getElem_toArray, List.getElem_cons_succ, List.getElem_cons_zero, Act.put, List.setIfInBounds_toArray, List.set_cons_zero, List.set_cons_succ])
            refine wpAnyH_take (i := 8) (v := undef) rfl (by kernel_rfl) (by kernel_rfl) (by kernel_rfl) (fun _ _ _ h => h) (Or.inr ⟨by rfl, rfl⟩) (by assumption) ?_
            (try simp only [List.getElem_toArray, List.getElem_cons_succ, List.getElem_cons_zero, Act.put, List.setIfInBounds_toArray, List.set_cons_zero, List.set_cons_succ])
            refine wpAnyH_take (i := 9) (v := undef) rfl (by kernel_rfl) (by kernel_rfl) (by kernel_rfl) (fun _ _ _ h => h) (Or.inr ⟨by rfl, rfl⟩) (by assumption) ?_
            (try simp only [List.getElem_toArray, List.getElem_cons_succ, List.getElem_cons_zero, Act.put, List.setIfInBounds_toArray, List.set_cons_zero, List.set_cons_succ])
            refine wpAnyH_take (i := 10) (v := undef) rfl (by kernel_rfl) (by kernel_rfl) (by kernel_rfl) (fun _ _ _ h => h) (Or.inr ⟨by rfl, rfl⟩) (by assumption) ?_
            (try simp only [List.getElem_toArray, List.getElem_cons_succ, List.getElem_cons_zero, Act.put, List.setIfInBounds_toArray, List.set_cons_zero, List.set_cons_succ])
            refine wpAnyH_take (i := 11) (v := undef) rfl (by kernel_rfl) (by kernel_rfl) (by kernel_rfl) (fun _ _ _ h => h) (Or.inr ⟨by rfl, rfl⟩) (by assumption) ?_
            (try simp only [List.getElem_toArray, List.getElem_cons_succ, List.getElem_cons_zero, Act.put, List.setIfInBounds_toArray, List.set_cons_zero, List.set_cons_succ])
            refine wpAnyH_take (i := 12) (v := undef) rfl (by kernel_rfl) (by kernel_rfl) (by kernel_rfl) (fun _ _ _ h => h) (Or.inr ⟨by rfl, rfl⟩) (by assumption) ?_
            (try simp only [List.getElem_toArray, List.getElem_cons_succ, List.getElem_cons_zero, Act.put, List.setIfInBounds_toArray, List.set_cons_zero, List.set_cons_succ])
            refine wpAnyH_take (i := 13) (v := undef) rfl (by kernel_rfl) (by kernel_rfl) (by kernel_rfl) (fun _ _ _ h => h) (Or.inr ⟨by rfl, rfl⟩) (by assumption) ?_
            (try simp only [List.getElem_toArray, List.getElem_cons_succ, List.getElem_cons_zero, Act.put, List.setIfInBounds_toArray, List.set_cons_zero, List.set_cons_succ])
            refine wpAnyH_take (i := 14) (v := undef) rfl (by kernel_rfl) (by kernel_rfl) (by kernel_rfl) (fun _ _ _ h => h) (Or.inr ⟨by rfl, rfl⟩) (by assumption) ?_
            (try simp only [List.getElem_toArray, List.getElem_cons_succ, List.getElem_cons_zero, Act.put, List.setIfInBounds_toArray, List.set_cons_zero, List.set_cons_succ])
            refine wpAnyH_take (i := 15) (v := undef) rfl (by kernel_rfl) (by kernel_rfl) (by kernel_rfl) (fun _ _ _ h => h) (Or.inr ⟨by rfl, rfl⟩) (by assumption) ?_
            (try simp only [List.getElem_toArray, List.getElem_cons_succ, List.getElem_cons_zero, Act.put, List.setIfInBounds_toArray, List.set_cons_zero, List.set_cons_succ])
            refine wpAnyH_take (i := 16) (v := undef) rfl (by kernel_rfl) (by kernel_rfl) (by kernel_rfl) (fun _ _ _ h => h) (Or.inr ⟨by rfl, rfl⟩) (by assumption) ?_
            (try simp only [List.getElem_toArray, List.getElem_cons_succ, List.getElem_cons_zero, Act.put, List.setIfInBounds_toArray, List.set_cons_zero, List.set_cons_succ])
            refine wpAnyH_take (i := 17) (v := ?_) rfl (by kernel_rfl) (by kernel_rfl) (by kernel_rfl) (fun _ _ _ h => h) (Or.inl ⟨by rfl, ?_⟩) (by assumption) ?_
            rotate_left; focus (intro w hSw; (try dsimp only at hSw); go_simp; try with_reducible rfl)
            (try simp only [List.getElem_toArray, List.getElem_cons_succ, List.getElem_cons_zero, Act.put, List.setIfInBounds_toArray, List.set_cons_zero, List.set_cons_succ])
            refine wpAnyH_take (i := 18) (v := ?_) rfl (by kernel_rfl) (by kernel_rfl) (by kernel_rfl) (fun _ _ _ h => h) (Or.inl ⟨by rfl, ?_⟩) (by assumption) ?_
            rotate_left; focus (intro w hSw; (try dsimp only at hSw); go_simp; try with_reducible rfl)
            (try simp only [List.getElem_toArray, List.getElem_cons_succ, List.getElem_cons_zero, Act.put, List.setIfInBounds_toArray, List.set_cons_zero, List.set_cons_succ])
            refine wpAnyH_done (by kernel_rfl) ?_ _
            have hbH := hH.2
            clear hH
            go_wp2
            go_roundw
            case rel => exact ⟨0 + 1, by omega, by go_num, hbq.trans (hbH.mono hsq), hok2⟩
            case measure => simp [intOf]; omega
          exact AllReadyH.nil
        · obtain ⟨m, rfl⟩ : ∃ m, k = m + 1 := ⟨k - 1, by omega⟩
          have hk1 : m < q.length := by omega
          have hk2 : m < l.length := by omega
          have hq : Hid (okR q (m + 1) hlt2 = Op.bytesLess q[m].toList q[m + 1].toList) := Lib.hid (okR_s (m + 1) hlt2 hk1 (by omega) hb)
          obtain ⟨v0, hcn0, _, _⟩ := hc m hk2
          have c1 : wr.cell? ⟨g, off + m * 8, none⟩ = _ := (hbel.cell (p := ⟨g, _, none⟩) (by show g < w.heap.size; omega)).trans hcn0
          rw [HQ.out m hk2 hk1] at c1
          generalize okR q (m + 1) hlt2 = t at hyes hno hq
          generalize q[m + 1] = nm at c0 HR0 NB hbx hq
          generalize q[m] = nm1 at c1 hq
          have hq2 : Hid (t = !(Op.bytesLess nm.toList nm1.toList || nm.toList == nm1.toList)) := Lib.hid (by rw [← lt_total, Bool.not_not]; exact hq.out)
          clear hok hc hb h0 hcn hE hI hRw hq hcn0
          have i3 : 0 < m + 1 := by omega
          have i4 : (0 : Int) ≤ (m : Int) := by omega
          have i5 : (m : Int) < (len : Int) := by omega
          have i8 : (0 : Int) ≤ (m : Int) + 1 := by omega
          have i9 : (m : Int) + 1 < (len : Int) := by omega
          have i6 : IntKind.i64.wrap ((m : Int) + 1 - 1) = (m : Int) := by rw [IntKind.wrap_i64]; omega
          have i7 : IntKind.i64.wrap (m : Int) = (m : Int) := by rw [IntKind.wrap_i64]; omega
          cases hx1 : Op.bytesLess nm.toList nm1.toList <;> cases hx2 : (nm.toList == nm1.toList)
          · have hok2 := Lib.hid (hyes.out (by rw [hq2.out, hx1, hx2]; rfl))
            clear hyes hno hq2
            go_wp2
            generalize wr.alloc (.cells #[.string nm, .int .i64 v1.op, .int .i64 v1.num, .string v1.tx, .slice v1.pa v1.pl v1.pc, .slice v1.qa v1.ql v1.qc, .bool v1.opn, .slice v1.ka v1.kl v1.kc] 46) = w1 at hbx NB HR0 ⊢
            have hsx := hbx.size
            have hB0 : wr.heap.size < w1.heap.size := (Array.getElem?_eq_some_iff.1 NB.out).1
            have hg2 : g < w1.heap.size := by omega
            have HR := HR0
            have cB : w1.cell? ⟨wr.heap.size, 0, none⟩ = some (.string nm) := cells_of NB.out 0
            have hS := SB.refl w1
            have hbq := hbel.trans (hbx.mono hs2)
            have hsq := hbq.size
            have c1w : w1.cell? ⟨g, off + m * 8, none⟩ = _ := (hbx.cell (p := ⟨g, _, none⟩) (by show g < _; omega)).trans c1
            clear HR0
            go_region_held3 (SB w1) (first | (with_reducible assumption) | (with_reducible exact SB.drew (by assumption)) | (with_reducible exact SB.below (by assumption) (by assumption))) (first | (go_at_call 53; (with_reducible refine (HR.out _ (by exact (by assumption : SB w1 _).2)).mono ?_); rintro e w6 ⟨rfl, hb6⟩))
            go_wp2
            go_roundw
            case rel => exact ⟨m + 1 + 1, by omega, by go_num, hbq.trans ((by assumption : SB w1 _).2.mono hsq), hok2⟩
            case measure => simp [intOf]; omega
          · have hRR := Lib.hid (hno.out (by rw [hq2.out, hx1, hx2]; rfl))
            clear hyes hno hq2
            go_wp2
            generalize wr.alloc (.cells #[.string nm, .int .i64 v1.op, .int .i64 v1.num, .string v1.tx, .slice v1.pa v1.pl v1.pc, .slice v1.qa v1.ql v1.qc, .bool v1.opn, .slice v1.ka v1.kl v1.kc] 46) = w1 at hbx NB HR0 ⊢
            have hsx := hbx.size
            have hB0 : wr.heap.size < w1.heap.size := (Array.getElem?_eq_some_iff.1 NB.out).1
            have hg2 : g < w1.heap.size := by omega
            have HR := HR0
            have cB : w1.cell? ⟨wr.heap.size, 0, none⟩ = some (.string nm) := cells_of NB.out 0
            have hS := SB.refl w1
            have hbq := hbel.trans (hbx.mono hs2)
            have hsq := hbq.size
            have c1w : w1.cell? ⟨g, off + m * 8, none⟩ = _ := (hbx.cell (p := ⟨g, _, none⟩) (by show g < _; omega)).trans c1
            clear HR0
            go_region_held3 (SB w1) (first | (with_reducible assumption) | (with_reducible exact SB.drew (by assumption)) | (with_reducible exact SB.below (by assumption) (by assumption))) (first | (go_at_call 53; (with_reducible refine (HR.out _ (by exact (by assumption : SB w1 _).2)).mono ?_); rintro e w6 ⟨rfl, hb6⟩))
            go_wp2
            go_ret
            exact ⟨ret_bool hRR.out.symm, hbq.trans ((by assumption : SB w1 _).2.mono hsq)⟩
          · have hRR := Lib.hid (hno.out (by rw [hq2.out, hx1, hx2]; rfl))
            clear hyes hno hq2
            go_wp2
            generalize wr.alloc (.cells #[.string nm, .int .i64 v1.op, .int .i64 v1.num, .string v1.tx, .slice v1.pa v1.pl v1.pc, .slice v1.qa v1.ql v1.qc, .bool v1.opn, .slice v1.ka v1.kl v1.kc] 46) = w1 at hbx NB HR0 ⊢
            have hsx := hbx.size
            have hB0 : wr.heap.size < w1.heap.size := (Array.getElem?_eq_some_iff.1 NB.out).1
            have hg2 : g < w1.heap.size := by omega
            have HR := HR0
            have cB : w1.cell? ⟨wr.heap.size, 0, none⟩ = some (.string nm) := cells_of NB.out 0
            have hS := SB.refl w1
            have hbq := hbel.trans (hbx.mono hs2)
            have hsq := hbq.size
            have c1w : w1.cell? ⟨g, off + m * 8, none⟩ = _ := (hbx.cell (p := ⟨g, _, none⟩) (by show g < _; omega)).trans c1
            clear HR0
            go_region_held3 (SB w1) (first | (with_reducible assumption) | (with_reducible exact SB.drew (by assumption)) | (with_reducible exact SB.below (by assumption) (by assumption))) (first | (go_at_call 53; (with_reducible refine (HR.out _ (by exact (by assumption : SB w1 _).2)).mono ?_); rintro e w6 ⟨rfl, hb6⟩))
            go_wp2
            go_ret
            exact ⟨ret_bool hRR.out.symm, hbq.trans ((by assumption : SB w1 _).2.mono hsq)⟩
          · have hRR := Lib.hid (hno.out (by rw [hq2.out, hx1, hx2]; rfl))
            clear hyes hno hq2
            go_wp2
            generalize wr.alloc (.cells #[.string nm, .int .i64 v1.op, .int .i64 v1.num, .string v1.tx, .slice v1.pa v1.pl v1.pc, .slice v1.qa v1.ql v1.qc, .bool v1.opn, .slice v1.ka v1.kl v1.kc] 46) = w1 at hbx NB HR0 ⊢
            have hsx := hbx.size
            have hB0 : wr.heap.size < w1.heap.size := (Array.getElem?_eq_some_iff.1 NB.out).1
            have hg2 : g < w1.heap.size := by omega
            have HR := HR0
            have cB : w1.cell? ⟨wr.heap.size, 0, none⟩ = some (.string nm) := cells_of NB.out 0
            have hS := SB.refl w1
            have hbq := hbel.trans (hbx.mono hs2)
            have hsq := hbq.size
            have c1w : w1.cell? ⟨g, off + m * 8, none⟩ = _ := (hbx.cell (p := ⟨g, _, none⟩) (by show g < _; omega)).trans c1
            clear HR0
            go_region_held3 (SB w1) (first | (with_reducible assumption) | (with_reducible exact SB.drew (by assumption)) | (with_reducible exact SB.below (by assumption) (by assumption))) (first | (go_at_call 53; (with_reducible refine (HR.out _ (by exact (by assumption : SB w1 _).2)).mono ?_); rintro e w6 ⟨rfl, hb6⟩))
            go_wp2
            go_ret
            exact ⟨ret_bool hRR.out.symm, hbq.trans ((by assumption : SB w1 _).2.mono hsq)⟩
    · have hge : (len : Int) ≤ (k : Int) := by omega
      have hR : Hid (rising q = true) := Lib.hid (rising_yes (fun i h => hok.out i (by have := LI.out; omega) h))
      clear hok
      go_wp2
      go_ret
      exact ⟨ret_bool hR.out.symm, hbel⟩
end Go.Proofs.YtigdibglkejciaaDoor.Ex
