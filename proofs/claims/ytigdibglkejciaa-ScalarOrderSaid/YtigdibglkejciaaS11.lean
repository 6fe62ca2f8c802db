/-
  The walk of ScalarRights.
-/
import Derived.Test.YtigdibglkejciaaS10
namespace Go.Proofs.Ytigdibglkejciaa.Sca
open Go.RowKit
set_option linter.unusedSimpArgs false

/-- Two blocks of the call's own read so, and nothing older has changed. -/
abbrev S2 (w : World) (a b : Nat) (A B : Array Value) (W : World) : Prop :=
  (∀ o, W.cell? ⟨a, o, none⟩ = A[o]?) ∧ (∀ o, W.cell? ⟨b, o, none⟩ = B[o]?) ∧ (a < W.heap.size ∧ b < W.heap.size) ∧ Below w.heap.size w W ∧ w.heap.size ≤ W.heap.size
theorem S2.below {w : World} {a b : Nat} {A B : Array Value} {W W1 : World} (h : S2 w a b A B W) (hb : Below W.heap.size W W1) : S2 w a b A B W1 := by
  obtain ⟨h1, h2, ⟨l1, l2⟩, hB, hs⟩ := h
  have := hb.size
  exact ⟨fun o => (hb.cell (p := ⟨a, o, none⟩) l1).trans (h1 o), fun o => (hb.cell (p := ⟨b, o, none⟩) l2).trans (h2 o), ⟨by omega, by omega⟩, hB.trans (hb.mono hs), by omega⟩
theorem S2.drew {w : World} {a b : Nat} {A B : Array Value} {W : World} (h : S2 w a b A B W) : S2 w a b A B W.drew := h.below (Below.refl _ _).drew

theorem cell_new2 (w : World) (o : Obj) (c : Array Value) (t : TypeId) (i : Nat) : ((w.alloc o).alloc (Obj.cells c t)).cell? ⟨w.heap.size + 1, i, none⟩ = c[i]? := by
  have h := World.cell?_alloc_new (w.alloc o) c t i
  rw [World.size_alloc] at h
  exact h
theorem short_b (xk xl xh : Int) (xs : ByteArray) (xa xm xo : Bool) (xf : Option Addr) (xn xc : Nat) (b : Bool) (hb : Hid (short xs xn = b)) (w : World) :
    Calls Try.prog 18 #[.agg #[.int .i64 xk, .int .i64 xl, .int .i64 xh, .string xs, .bool xa, .bool xm, .bool xo, .slice xf xn xc]] w fun e w' => e = .returned (.bool b) ∧ Below w.heap.size w w' := by
  have := hb.out; subst this; exact short_any xk xl xh xs xa xm xo xf xn xc w

/-- What is not right is no atom. -/
theorem atom_c (xk xl xh : Int) (xs : ByteArray) (xa xm xo : Bool) (xf : Option Addr) (xn xc : Nat) (hr : Hid (right xk xl xh xs xa xm xo xn = false)) (w : World) :
    Calls Try.prog 22 #[.agg #[.int .i64 xk, .int .i64 xl, .int .i64 xh, .string xs, .bool xa, .bool xm, .bool xo, .slice xf xn xc]] w fun e w' => e = .returned (.bool false) ∧ Below w.heap.size w w' :=
  (atom_b xk xl xh xs xa xm xo xf xn xc false _ hr (rfl : one xk xl xh xa = _) w).mono fun _ _ h => h

set_option maxHeartbeats 4000000 in
theorem rights_walk (xk xl xh : Int) (xs : ByteArray) (xa xm xo : Bool) (xf : Option Addr) (xn xc : Nat) (yk yl yh : Int) (ys : ByteArray) (ya ym yo : Bool) (yf : Option Addr) (yn yc : Nat) (w : World) :
    Calls Try.prog 4 #[.agg #[.int .i64 xk, .int .i64 xl, .int .i64 xh, .string xs, .bool xa, .bool xm, .bool xo, .slice xf xn xc], .agg #[.int .i64 yk, .int .i64 yl, .int .i64 yh, .string ys, .bool ya, .bool ym, .bool yo, .slice yf yn yc]] w fun e w' => e = .returned (.bool true) ∧ Below w.heap.size w w' := by
  obtain ⟨s1, hs1⟩ : ∃ b, Hid (short xs xn = b) := ⟨_, rfl⟩
  obtain ⟨s2, hs2⟩ : ∃ b, Hid (short ys yn = b) := ⟨_, rfl⟩
  cases s1
  · go_enter Try.func4, Try.ntmps4
    go_wp2_with (first | (go_at_call 18; (with_reducible refine (short_b _ _ _ _ _ _ _ _ _ _ _ hs1 _).mono ?_); clear hs1; rintro e w1 ⟨rfl, hb_w1⟩; obtain ⟨hc_w1, hf_w1⟩ := bcell hb_w1; have hs_w1 := hb_w1.size; (try simp only [World.size_alloc] at hs_w1); have hk_w1_0 : w.heap.size < w1.heap.size := (by omega); have hk_w1_1 : w.heap.size + 1 < w1.heap.size := (by omega)) | (go_at_call 19; (with_reducible refine (awake_any _).mono ?_); rintro e w2 ⟨rfl, hb_w2⟩; obtain ⟨hc_w2, hf_w2⟩ := bcell hb_w2; have hs_w2 := hb_w2.size; (try simp only [World.size_alloc] at hs_w2); have hk_w2_0 : w.heap.size < w2.heap.size := (by omega)))
    go_ret
    exact ⟨rfl, by (repeat (first | (with_reducible exact Below.refl _ _) | ((with_reducible refine Below.alloc ?_ ?_ _); rotate_left; (focus (first | omega | (simp; done) | (simp; omega)))) | ((with_reducible refine Below.setCell ?_ ?_ _); rotate_left; (focus (first | omega | (simp; done) | (simp; omega)))) | ((with_reducible refine Below.trans ?_ (Below.mono (by assumption) ?_)); rotate_left; (focus (first | omega | (simp; done) | (simp; omega)))) | (with_reducible assumption)))⟩
  cases s2
  · go_enter Try.func4, Try.ntmps4
    go_wp2_with (first | (go_at_call 18; (with_reducible refine (short_b _ _ _ _ _ _ _ _ _ _ _ hs1 _).mono ?_); clear hs1; rintro e w1 ⟨rfl, hb_w1⟩; obtain ⟨hc_w1, hf_w1⟩ := bcell hb_w1; have hs_w1 := hb_w1.size; (try simp only [World.size_alloc] at hs_w1); have hk_w1_0 : w.heap.size < w1.heap.size := (by omega); have hk_w1_1 : w.heap.size + 1 < w1.heap.size := (by omega)) | (go_at_call 18; (with_reducible refine (short_b _ _ _ _ _ _ _ _ _ _ _ hs2 _).mono ?_); clear hs2; rintro e w2 ⟨rfl, hb_w2⟩; obtain ⟨hc_w2, hf_w2⟩ := bcell hb_w2; have hs_w2 := hb_w2.size; (try simp only [World.size_alloc] at hs_w2); have hk_w2_0 : w.heap.size < w2.heap.size := (by omega); have hk_w2_1 : w.heap.size + 1 < w2.heap.size := (by omega)) | (go_at_call 19; (with_reducible refine (awake_any _).mono ?_); rintro e w3 ⟨rfl, hb_w3⟩; obtain ⟨hc_w3, hf_w3⟩ := bcell hb_w3; have hs_w3 := hb_w3.size; (try simp only [World.size_alloc] at hs_w3); have hk_w3_0 : w.heap.size < w3.heap.size := (by omega)))
    go_ret
    exact ⟨rfl, by (repeat (first | (with_reducible exact Below.refl _ _) | ((with_reducible refine Below.alloc ?_ ?_ _); rotate_left; (focus (first | omega | (simp; done) | (simp; omega)))) | ((with_reducible refine Below.setCell ?_ ?_ _); rotate_left; (focus (first | omega | (simp; done) | (simp; omega)))) | ((with_reducible refine Below.trans ?_ (Below.mono (by assumption) ?_)); rotate_left; (focus (first | omega | (simp; done) | (simp; omega)))) | (with_reducible assumption)))⟩
  obtain ⟨r, hr⟩ : ∃ b, Hid (right xk xl xh xs xa xm xo xn = b) := ⟨_, rfl⟩
  obtain ⟨q, hq⟩ : ∃ b, Hid (right yk yl yh ys ya ym yo yn = b) := ⟨_, rfl⟩
  obtain ⟨o1, ho⟩ : ∃ b, Hid (one xk xl xh xa = b) := ⟨_, rfl⟩
  cases r
  · go_enter Try.func4, Try.ntmps4
    go_wp2_with (first | (go_at_call 18; (with_reducible refine (short_b _ _ _ _ _ _ _ _ _ _ _ hs1 _).mono ?_); clear hs1; rintro e w1 ⟨rfl, hb_w1⟩; obtain ⟨hc_w1, hf_w1⟩ := bcell hb_w1; have hs_w1 := hb_w1.size; (try simp only [World.size_alloc] at hs_w1); have hk_w1_0 : w.heap.size < w1.heap.size := (by omega); have hk_w1_1 : w.heap.size + 1 < w1.heap.size := (by omega)) | (go_at_call 18; (with_reducible refine (short_b _ _ _ _ _ _ _ _ _ _ _ hs2 _).mono ?_); clear hs2; rintro e w2 ⟨rfl, hb_w2⟩; obtain ⟨hc_w2, hf_w2⟩ := bcell hb_w2; have hs_w2 := hb_w2.size; (try simp only [World.size_alloc] at hs_w2); have hk_w2_0 : w.heap.size < w2.heap.size := (by omega); have hk_w2_1 : w.heap.size + 1 < w2.heap.size := (by omega)) | (go_at_call 20; (with_reducible refine (rightRef_c _ _ _ _ _ _ _ _ _ _ _ hr _).mono ?_); rintro e w3 ⟨rfl, hb_w3⟩; obtain ⟨hc_w3, hf_w3⟩ := bcell hb_w3; have hs_w3 := hb_w3.size; (try simp only [World.size_alloc] at hs_w3); have hk_w3_0 : w.heap.size < w3.heap.size := (by omega); have hk_w3_1 : w.heap.size + 1 < w3.heap.size := (by omega)))
    have hS : S2 w w.heap.size (w.heap.size + 1) #[.int .i64 xk, .int .i64 xl, .int .i64 xh, .string xs, .bool xa, .bool xm, .bool xo, .slice xf xn xc] #[.int .i64 yk, .int .i64 yl, .int .i64 yh, .string ys, .bool ya, .bool ym, .bool yo, .slice yf yn yc] w3 :=
      ⟨fun o => by rw [hc_w3 _ _ (by omega), hc_w2 _ _ (by omega), hc_w1 _ _ (by simp; omega), World.cell?_alloc_lt _ _ _ (by simp), World.cell?_alloc_new], fun o => by rw [hc_w3 _ _ (by omega), hc_w2 _ _ (by omega), hc_w1 _ _ (by simp)]; exact cell_new2 _ _ _ _ _, ⟨by omega, by omega⟩, by (repeat (first | (with_reducible exact Below.refl _ _) | ((with_reducible refine Below.alloc ?_ ?_ _); rotate_left; (focus (first | omega | (simp; done) | (simp; omega)))) | ((with_reducible refine Below.setCell ?_ ?_ _); rotate_left; (focus (first | omega | (simp; done) | (simp; omega)))) | ((with_reducible refine Below.trans ?_ (Below.mono (by assumption) ?_)); rotate_left; (focus (first | omega | (simp; done) | (simp; omega)))) | (with_reducible assumption))), by omega⟩
    clear hc_w1 hf_w1 hs_w1 hc_w2 hf_w2 hs_w2 hc_w3 hf_w3 hs_w3 hb_w1 hb_w2 hb_w3 hk_w1_0 hk_w2_0 hk_w3_0 hk_w1_1 hk_w2_1 hk_w3_1
    refine wp_region_held_drew (S := (S2 w w.heap.size (w.heap.size + 1) #[.int .i64 xk, .int .i64 xl, .int .i64 xh, .string xs, .bool xa, .bool xm, .bool xo, .slice xf xn xc] #[.int .i64 yk, .int .i64 yl, .int .i64 yh, .string ys, .bool ya, .bool ym, .bool yo, .slice yf yn yc])) (by kernel_rfl) ?_ (fun hH => ?_)
    · (first | (with_reducible assumption) | (with_reducible exact S2.drew (by assumption)) | (with_reducible exact S2.below (by assumption) (by assumption)))
    refine wpAnyH_ready (rs := [0]) (by kernel_rfl) (by simp) ?_
    refine AllReadyH.cons rfl (fun K hK => ?_) ?_
    · go_simp
      go_at_call 19
      (with_reducible refine (awake_any _).mono ?_)
      rintro e w6 ⟨rfl, hb6⟩
      go_wp2_with fail
      refine hK.out _ _ ?_ (fun hH2 => ?_)
      · (first | (with_reducible assumption) | (with_reducible exact S2.drew (by assumption)) | (with_reducible exact S2.below (by assumption) (by assumption)))
      clear hK K hH
      have hH := hH2; clear hH2
      (try simp only [List.getElem_toArray, List.getElem_cons_succ, List.getElem_cons_zero, Act.put, List.setIfInBounds_toArray, List.set_cons_zero, List.set_cons_succ])
      refine wpAnyH_take (i := 1) (v := ?_) rfl (by kernel_rfl) (by kernel_rfl) (by kernel_rfl) (fun _ _ _ h => h) (Or.inl ⟨by rfl, ?_⟩) (by assumption) ?_
      rotate_left; focus (intro w hSw; (try dsimp only at hSw); go_simp; try with_reducible rfl)
      (try simp only [List.getElem_toArray, List.getElem_cons_succ, List.getElem_cons_zero, Act.put, List.setIfInBounds_toArray, List.set_cons_zero, List.set_cons_succ])
      refine wpAnyH_take (i := 2) (v := ?_) rfl (by kernel_rfl) (by kernel_rfl) (by kernel_rfl) (fun _ _ _ h => h) (Or.inl ⟨by rfl, ?_⟩) (by assumption) ?_
      rotate_left; focus (intro w hSw; (try dsimp only at hSw); go_simp; try with_reducible rfl)
      (try simp only [List.getElem_toArray, List.getElem_cons_succ, List.getElem_cons_zero, Act.put, List.setIfInBounds_toArray, List.set_cons_zero, List.set_cons_succ])
      refine wpAnyH_take (i := 4) (v := ?_) rfl (by kernel_rfl) (by kernel_rfl) (by kernel_rfl) (fun _ _ _ h => h) (Or.inl ⟨by rfl, ?_⟩) (by assumption) ?_
      rotate_left; focus (intro w hSw; (try dsimp only at hSw); go_simp; try with_reducible rfl)
      (try simp only [List.getElem_toArray, List.getElem_cons_succ, List.getElem_cons_zero, Act.put, List.setIfInBounds_toArray, List.set_cons_zero, List.set_cons_succ])
      refine wpAnyH_ready (rs := [3]) (by kernel_rfl) (by simp) ?_
      refine AllReadyH.cons rfl (fun K hK => ?_) ?_
      · go_simp
        go_at_call 21
        (with_reducible refine (right_b _ _ _ _ _ _ _ _ _ _ _ hr _).mono ?_)
        rintro e w6 ⟨rfl, hb6⟩
        go_wp2_with fail
        refine hK.out _ _ ?_ (fun hH2 => ?_)
        · (first | (with_reducible assumption) | (with_reducible exact S2.drew (by assumption)) | (with_reducible exact S2.below (by assumption) (by assumption)))
        clear hK K hH
        have hH := hH2; clear hH2
        (try simp only [List.getElem_toArray, List.getElem_cons_succ, List.getElem_cons_zero, Act.put, List.setIfInBounds_toArray, List.set_cons_zero, List.set_cons_succ])
        refine wpAnyH_take (i := 5) (v := ?_) rfl (by kernel_rfl) (by kernel_rfl) (by kernel_rfl) (fun _ _ _ h => h) (Or.inl ⟨by rfl, ?_⟩) (by assumption) ?_
        rotate_left; focus (intro w hSw; (try dsimp only at hSw); go_simp; try with_reducible rfl)
        (try simp only [List.getElem_toArray, List.getElem_cons_succ, List.getElem_cons_zero, Act.put, List.setIfInBounds_toArray, List.set_cons_zero, List.set_cons_succ])
        refine wpAnyH_take (i := 6) (v := ?_) rfl (by kernel_rfl) (by kernel_rfl) (by kernel_rfl) (fun _ _ _ h => h) (Or.inl ⟨by rfl, ?_⟩) (by assumption) ?_
        rotate_left; focus (intro w hSw; (try dsimp only at hSw); go_simp; try with_reducible rfl)
        (try simp only [List.getElem_toArray, List.getElem_cons_succ, List.getElem_cons_zero, Act.put, List.setIfInBounds_toArray, List.set_cons_zero, List.set_cons_succ])
        refine wpAnyH_take (i := 7) (v := ?_) rfl (by kernel_rfl) (by kernel_rfl) (by kernel_rfl) (fun _ _ _ h => h) (Or.inl ⟨by rfl, ?_⟩) (by assumption) ?_
        rotate_left; focus (intro w hSw; (try dsimp only at hSw); go_simp; try with_reducible rfl)
        (try simp only [List.getElem_toArray, List.getElem_cons_succ, List.getElem_cons_zero, Act.put, List.setIfInBounds_toArray, List.set_cons_zero, List.set_cons_succ])
        refine wpAnyH_take (i := 8) (v := ?_) rfl (by kernel_rfl) (by kernel_rfl) (by kernel_rfl) (fun _ _ _ h => h) (Or.inl ⟨by rfl, ?_⟩) (by assumption) ?_
        rotate_left; focus (intro w hSw; (try dsimp only at hSw); go_simp; try with_reducible rfl)
        (try simp only [List.getElem_toArray, List.getElem_cons_succ, List.getElem_cons_zero, Act.put, List.setIfInBounds_toArray, List.set_cons_zero, List.set_cons_succ])
        refine wpAnyH_take (i := 10) (v := ?_) rfl (by kernel_rfl) (by kernel_rfl) (by kernel_rfl) (fun _ _ _ h => h) (Or.inl ⟨by rfl, ?_⟩) (by assumption) ?_
        rotate_left; focus (intro w hSw; (try dsimp only at hSw); go_simp; try with_reducible rfl)
        (try simp only [List.getElem_toArray, List.getElem_cons_succ, List.getElem_cons_zero, Act.put, List.setIfInBounds_toArray, List.set_cons_zero, List.set_cons_succ])
        refine wpAnyH_ready (rs := [9]) (by kernel_rfl) (by simp) ?_
        refine AllReadyH.cons rfl (fun K hK => ?_) ?_
        · go_simp
          go_at_call 22
          (with_reducible refine (atom_c _ _ _ _ _ _ _ _ _ _ hr _).mono ?_)
          rintro e w6 ⟨rfl, hb6⟩
          go_wp2_with fail
          refine hK.out _ _ ?_ (fun hH2 => ?_)
          · (first | (with_reducible assumption) | (with_reducible exact S2.drew (by assumption)) | (with_reducible exact S2.below (by assumption) (by assumption)))
          clear hK K hH
          have hH := hH2; clear hH2
          (try simp only [List.getElem_toArray, List.getElem_cons_succ, List.getElem_cons_zero, Act.put, List.setIfInBounds_toArray, List.set_cons_zero, List.set_cons_succ])
          refine wpAnyH_take (i := 11) (v := ?_) rfl (by kernel_rfl) (by kernel_rfl) (by kernel_rfl) (fun _ _ _ h => h) (Or.inl ⟨by rfl, ?_⟩) (by assumption) ?_
          rotate_left; focus (intro w hSw; (try dsimp only at hSw); go_simp; try with_reducible rfl)
          (try simp only [List.getElem_toArray, List.getElem_cons_succ, List.getElem_cons_zero, Act.put, List.setIfInBounds_toArray, List.set_cons_zero, List.set_cons_succ])
          refine wpAnyH_take (i := 12) (v := undef) rfl (by kernel_rfl) (by kernel_rfl) (by kernel_rfl) (fun _ _ _ h => h) (Or.inr ⟨by rfl, rfl⟩) (by assumption) ?_
          (try simp only [List.getElem_toArray, List.getElem_cons_succ, List.getElem_cons_zero, Act.put, List.setIfInBounds_toArray, List.set_cons_zero, List.set_cons_succ])
          refine wpAnyH_take (i := 13) (v := undef) rfl (by kernel_rfl) (by kernel_rfl) (by kernel_rfl) (fun _ _ _ h => h) (Or.inr ⟨by rfl, rfl⟩) (by assumption) ?_
          (try simp only [List.getElem_toArray, List.getElem_cons_succ, List.getElem_cons_zero, Act.put, List.setIfInBounds_toArray, List.set_cons_zero, List.set_cons_succ])
          refine wpAnyH_take (i := 14) (v := ?_) rfl (by kernel_rfl) (by kernel_rfl) (by kernel_rfl) (fun _ _ _ h => h) (Or.inl ⟨by rfl, ?_⟩) (by assumption) ?_
          rotate_left; focus (intro w hSw; (try dsimp only at hSw); go_simp; try with_reducible rfl)
          (try simp only [List.getElem_toArray, List.getElem_cons_succ, List.getElem_cons_zero, Act.put, List.setIfInBounds_toArray, List.set_cons_zero, List.set_cons_succ])
          refine wpAnyH_take (i := 15) (v := ?_) rfl (by kernel_rfl) (by kernel_rfl) (by kernel_rfl) (fun _ _ _ h => h) (Or.inl ⟨by rfl, ?_⟩) (by assumption) ?_
          rotate_left; focus (intro w hSw; (try dsimp only at hSw); go_simp; try with_reducible rfl)
          (try simp only [List.getElem_toArray, List.getElem_cons_succ, List.getElem_cons_zero, Act.put, List.setIfInBounds_toArray, List.set_cons_zero, List.set_cons_succ])
          refine wpAnyH_take (i := 16) (v := ?_) rfl (by kernel_rfl) (by kernel_rfl) (by kernel_rfl) (fun _ _ _ h => h) (Or.inl ⟨by rfl, ?_⟩) (by assumption) ?_
          rotate_left; focus (intro w hSw; (try dsimp only at hSw); go_simp; try with_reducible rfl)
          (try simp only [List.getElem_toArray, List.getElem_cons_succ, List.getElem_cons_zero, Act.put, List.setIfInBounds_toArray, List.set_cons_zero, List.set_cons_succ])
          refine wpAnyH_take (i := 17) (v := ?_) rfl (by kernel_rfl) (by kernel_rfl) (by kernel_rfl) (fun _ _ _ h => h) (Or.inl ⟨by rfl, ?_⟩) (by assumption) ?_
          rotate_left; focus (intro w hSw; (try dsimp only at hSw); go_simp; try with_reducible rfl)
          (try simp only [List.getElem_toArray, List.getElem_cons_succ, List.getElem_cons_zero, Act.put, List.setIfInBounds_toArray, List.set_cons_zero, List.set_cons_succ])
          refine wpAnyH_take (i := 18) (v := ?_) rfl (by kernel_rfl) (by kernel_rfl) (by kernel_rfl) (fun _ _ _ h => h) (Or.inl ⟨by rfl, ?_⟩) (by assumption) ?_
          rotate_left; focus (intro w hSw; (try dsimp only at hSw); go_simp; try with_reducible rfl)
          (try simp only [List.getElem_toArray, List.getElem_cons_succ, List.getElem_cons_zero, Act.put, List.setIfInBounds_toArray, List.set_cons_zero, List.set_cons_succ])
          refine wpAnyH_take (i := 19) (v := ?_) rfl (by kernel_rfl) (by kernel_rfl) (by kernel_rfl) (fun _ _ _ h => h) (Or.inl ⟨by rfl, ?_⟩) (by assumption) ?_
          rotate_left; focus (intro w hSw; (try dsimp only at hSw); go_simp; try with_reducible rfl)
          (try simp only [List.getElem_toArray, List.getElem_cons_succ, List.getElem_cons_zero, Act.put, List.setIfInBounds_toArray, List.set_cons_zero, List.set_cons_succ])
          refine wpAnyH_take (i := 21) (v := ?_) rfl (by kernel_rfl) (by kernel_rfl) (by kernel_rfl) (fun _ _ _ h => h) (Or.inl ⟨by rfl, ?_⟩) (by assumption) ?_
          rotate_left; focus (intro w hSw; (try dsimp only at hSw); go_simp; try with_reducible rfl)
          (try simp only [List.getElem_toArray, List.getElem_cons_succ, List.getElem_cons_zero, Act.put, List.setIfInBounds_toArray, List.set_cons_zero, List.set_cons_succ])
          refine wpAnyH_take (i := 22) (v := ?_) rfl (by kernel_rfl) (by kernel_rfl) (by kernel_rfl) (fun _ _ _ h => h) (Or.inl ⟨by rfl, ?_⟩) (by assumption) ?_
          rotate_left; focus (intro w hSw; (try dsimp only at hSw); go_simp; try with_reducible rfl)
          (try simp only [List.getElem_toArray, List.getElem_cons_succ, List.getElem_cons_zero, Act.put, List.setIfInBounds_toArray, List.set_cons_zero, List.set_cons_succ])
          refine wpAnyH_ready (rs := [20]) (by kernel_rfl) (by simp) ?_
          refine AllReadyH.cons rfl (fun K hK => ?_) ?_
          · go_simp
            go_at_call 24
            (with_reducible refine (same_b _ _ _ _ _ _ _ _ _ _ _ _ _ _ _ _ _ _ _ _ _ _ hr hq _).mono ?_)
            rintro e w6 ⟨rfl, hb6⟩
            go_wp2_with fail
            refine hK.out _ _ ?_ (fun hH2 => ?_)
            · (first | (with_reducible assumption) | (with_reducible exact S2.drew (by assumption)) | (with_reducible exact S2.below (by assumption) (by assumption)))
            clear hK K hH
            have hH := hH2; clear hH2
            (try simp only [List.getElem_toArray, List.getElem_cons_succ, List.getElem_cons_zero, Act.put, List.setIfInBounds_toArray, List.set_cons_zero, List.set_cons_succ])
            refine wpAnyH_ready (rs := [23]) (by kernel_rfl) (by simp) ?_
            refine AllReadyH.cons rfl (fun K hK => ?_) ?_
            · go_simp
              go_at_call 25
              (with_reducible refine (sameRef_b _ _ _ _ _ _ _ _ _ _ _ _ _ _ _ _ _ _ _ _ _ _ hr hq _).mono ?_)
              rintro e w6 ⟨rfl, hb6⟩
              go_wp2_with fail
              refine hK.out _ _ ?_ (fun hH2 => ?_)
              · (first | (with_reducible assumption) | (with_reducible exact S2.drew (by assumption)) | (with_reducible exact S2.below (by assumption) (by assumption)))
              clear hK K hH
              have hH := hH2; clear hH2
              (try simp only [List.getElem_toArray, List.getElem_cons_succ, List.getElem_cons_zero, Act.put, List.setIfInBounds_toArray, List.set_cons_zero, List.set_cons_succ])
              refine wpAnyH_take (i := 24) (v := ?_) rfl (by kernel_rfl) (by kernel_rfl) (by kernel_rfl) (fun _ _ _ h => h) (Or.inl ⟨by rfl, ?_⟩) (by assumption) ?_
              rotate_left; focus (intro w hSw; (try dsimp only at hSw); go_simp; try with_reducible rfl)
              (try simp only [List.getElem_toArray, List.getElem_cons_succ, List.getElem_cons_zero, Act.put, List.setIfInBounds_toArray, List.set_cons_zero, List.set_cons_succ])
              refine wpAnyH_take (i := 25) (v := ?_) rfl (by kernel_rfl) (by kernel_rfl) (by kernel_rfl) (fun _ _ _ h => h) (Or.inl ⟨by rfl, ?_⟩) (by assumption) ?_
              rotate_left; focus (intro w hSw; (try dsimp only at hSw); go_simp; try with_reducible rfl)
              (try simp only [List.getElem_toArray, List.getElem_cons_succ, List.getElem_cons_zero, Act.put, List.setIfInBounds_toArray, List.set_cons_zero, List.set_cons_succ])
              refine wpAnyH_take (i := 26) (v := ?_) rfl (by kernel_rfl) (by kernel_rfl) (by kernel_rfl) (fun _ _ _ h => h) (Or.inl ⟨by rfl, ?_⟩) (by assumption) ?_
              rotate_left; focus (intro w hSw; (try dsimp only at hSw); go_simp; try with_reducible rfl)
              (try simp only [List.getElem_toArray, List.getElem_cons_succ, List.getElem_cons_zero, Act.put, List.setIfInBounds_toArray, List.set_cons_zero, List.set_cons_succ])
              refine wpAnyH_done (by kernel_rfl) ?_ _
              go_wp2
              go_ret
              exact ⟨ret_bool (by simp), hH.2.2.2.1⟩
            exact AllReadyH.nil
          exact AllReadyH.nil
        exact AllReadyH.nil
      exact AllReadyH.nil
    exact AllReadyH.nil
  · go_enter Try.func4, Try.ntmps4
    go_wp2_with (first | (go_at_call 18; (with_reducible refine (short_b _ _ _ _ _ _ _ _ _ _ _ hs1 _).mono ?_); clear hs1; rintro e w1 ⟨rfl, hb_w1⟩; obtain ⟨hc_w1, hf_w1⟩ := bcell hb_w1; have hs_w1 := hb_w1.size; (try simp only [World.size_alloc] at hs_w1); have hk_w1_0 : w.heap.size < w1.heap.size := (by omega); have hk_w1_1 : w.heap.size + 1 < w1.heap.size := (by omega)) | (go_at_call 18; (with_reducible refine (short_b _ _ _ _ _ _ _ _ _ _ _ hs2 _).mono ?_); clear hs2; rintro e w2 ⟨rfl, hb_w2⟩; obtain ⟨hc_w2, hf_w2⟩ := bcell hb_w2; have hs_w2 := hb_w2.size; (try simp only [World.size_alloc] at hs_w2); have hk_w2_0 : w.heap.size < w2.heap.size := (by omega); have hk_w2_1 : w.heap.size + 1 < w2.heap.size := (by omega)) | (go_at_call 20; (with_reducible refine (rightRef_c _ _ _ _ _ _ _ _ _ _ _ hr _).mono ?_); rintro e w3 ⟨rfl, hb_w3⟩; obtain ⟨hc_w3, hf_w3⟩ := bcell hb_w3; have hs_w3 := hb_w3.size; (try simp only [World.size_alloc] at hs_w3); have hk_w3_0 : w.heap.size < w3.heap.size := (by omega); have hk_w3_1 : w.heap.size + 1 < w3.heap.size := (by omega)))
    have hS : S2 w w.heap.size (w.heap.size + 1) #[.int .i64 xk, .int .i64 xl, .int .i64 xh, .string xs, .bool xa, .bool xm, .bool xo, .slice xf xn xc] #[.int .i64 yk, .int .i64 yl, .int .i64 yh, .string ys, .bool ya, .bool ym, .bool yo, .slice yf yn yc] w3 :=
      ⟨fun o => by rw [hc_w3 _ _ (by omega), hc_w2 _ _ (by omega), hc_w1 _ _ (by simp; omega), World.cell?_alloc_lt _ _ _ (by simp), World.cell?_alloc_new], fun o => by rw [hc_w3 _ _ (by omega), hc_w2 _ _ (by omega), hc_w1 _ _ (by simp)]; exact cell_new2 _ _ _ _ _, ⟨by omega, by omega⟩, by (repeat (first | (with_reducible exact Below.refl _ _) | ((with_reducible refine Below.alloc ?_ ?_ _); rotate_left; (focus (first | omega | (simp; done) | (simp; omega)))) | ((with_reducible refine Below.setCell ?_ ?_ _); rotate_left; (focus (first | omega | (simp; done) | (simp; omega)))) | ((with_reducible refine Below.trans ?_ (Below.mono (by assumption) ?_)); rotate_left; (focus (first | omega | (simp; done) | (simp; omega)))) | (with_reducible assumption))), by omega⟩
    clear hc_w1 hf_w1 hs_w1 hc_w2 hf_w2 hs_w2 hc_w3 hf_w3 hs_w3 hb_w1 hb_w2 hb_w3 hk_w1_0 hk_w2_0 hk_w3_0 hk_w1_1 hk_w2_1 hk_w3_1
    go_region_held3 (S2 w w.heap.size (w.heap.size + 1) #[.int .i64 xk, .int .i64 xl, .int .i64 xh, .string xs, .bool xa, .bool xm, .bool xo, .slice xf xn xc] #[.int .i64 yk, .int .i64 yl, .int .i64 yh, .string ys, .bool ya, .bool ym, .bool yo, .slice yf yn yc])
      (first | (with_reducible assumption) | (with_reducible exact S2.drew (by assumption)) | (with_reducible exact S2.below (by assumption) (by assumption)))
      (first | (go_at_call 19; (with_reducible refine (awake_any _).mono ?_); rintro e w6 ⟨rfl, hb6⟩) | (go_at_call 21; (with_reducible refine (right_b _ _ _ _ _ _ _ _ _ _ _ hr _).mono ?_); rintro e w6 ⟨rfl, hb6⟩) | (go_at_call 22; (with_reducible refine (atom_b _ _ _ _ _ _ _ _ _ _ _ _ hr ho _).mono ?_); rintro e w6 ⟨rfl, hb6⟩) | (go_at_call 23; (with_reducible refine (single_b _ _ _ _ _ _ _ _ _ _ _ ho _).mono ?_); rintro e w6 ⟨rfl, hb6⟩) | (go_at_call 24; (with_reducible refine (same_b _ _ _ _ _ _ _ _ _ _ _ _ _ _ _ _ _ _ _ _ _ _ hr hq _).mono ?_); rintro e w6 ⟨rfl, hb6⟩) | (go_at_call 25; (with_reducible refine (sameRef_b _ _ _ _ _ _ _ _ _ _ _ _ _ _ _ _ _ _ _ _ _ _ hr hq _).mono ?_); rintro e w6 ⟨rfl, hb6⟩))
    all_goals go_wp2
    all_goals go_ret
    all_goals exact ⟨ret_bool (by simp), (by assumption : S2 w _ _ _ _ _).2.2.2.1⟩
end Go.Proofs.Ytigdibglkejciaa.Sca
