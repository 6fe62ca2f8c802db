/-
  The reference's Right of a name; paths and rising names.
-/
import Derived.Test.YtigdibglkejciaaDoorE2
namespace Go.Proofs.YtigdibglkejciaaDoor.Ex
open Go.RowKit Go
set_option linter.unusedSimpArgs false

theorem ix_str (s : ByteArray) (k : Nat) (h : k < s.size) (W : World) : (Instr.index 9 (.string s) (.int .i64 (k : Int))).run Tryd.prog W = .ok (.int .u8 ((s[k]).toNat : Int)) W := by
  rw [run_index_string (P := Tryd.prog) (w := W) 9 s .i64 (k : Int) Tryd.underlying9, dif_pos ⟨by omega, by omega⟩]
  simp
theorem word_nonneg (s : ByteArray) : 0 ≤ word s := by unfold word; repeat' split; all_goals omega
set_option maxHeartbeats 2000000 in
set_option maxRecDepth 100000 in
theorem rightR_any (s : ByteArray) (w : World) : Calls Tryd.prog 51 #[.string s] w fun e w' => e = .returned (.bool (right s)) ∧ w = w' := by
  by_cases h0 : s.size = 0
  · have hR : Hid (right s = false) := Lib.hid (by unfold right; simp [h0])
    have h0' : (s.size : Int) < 1 := by omega
    clear h0
    go_enter Tryd.func51, Tryd.ntmps51
    go_wp2
    go_ret
    exact ⟨ret_bool hR.out.symm, rfl⟩
  have h0' : (1 : Int) ≤ (s.size : Int) := by omega
  by_cases h1 : 16 < s.size
  · have hR : Hid (right s = false) := Lib.hid (by unfold right; simp; omega)
    have h1' : (16 : Int) < (s.size : Int) := by omega
    clear h0 h1
    go_enter Tryd.func51, Tryd.ntmps51
    go_wp2
    go_ret
    exact ⟨ret_bool hR.out.symm, rfl⟩
  have h1' : (s.size : Int) ≤ 16 := by omega
  by_cases h2 : word s = 0
  · have H2 := Lib.hid h2
    have hlt0 : 0 < s.size := by omega
    have hx0 : ∀ W, (Instr.index 9 (.string s) (.int .i64 0)).run Tryd.prog W = .ok (.int .u8 ((s[0]).toNat : Int)) W := fun W => ix_str s 0 hlt0 W
    have hok0 : Hid (okc 0 (s[0]).toNat ↔ (97 ≤ (s[0]).toNat ∧ (s[0]).toNat ≤ 122)) := Lib.hid (by unfold okc; omega)
    have hh : Hid (okc 0 (s[0]).toNat → ∀ i, i < 1 → (h : i < s.size) → okc i s[i].toNat) := Lib.hid (fun ho i hi h => by
      cases i with
      | zero => exact ho
      | succ n => omega)
    have hn0 : Hid (¬ okc 0 (s[0]).toNat → right s = false) := Lib.hid (fun hg => by unfold right; simp only [decide_eq_false_iff_not]; rintro ⟨_, _, _, h⟩; exact hg (h 0 hlt0))
    generalize (s[0]).toNat = b at hx0 hok0 hh hn0
    have hw0 : word s = 0 := h2
    by_cases g1 : b < 97
    · have hR := Lib.hid (hn0.out (fun h => by have := hok0.out.1 h; omega))
      have i1 : (b : Int) < 97 := by omega
      clear h2 hlt0 hok0 hh hn0 g1 h0 h1
      go_enter Tryd.func51, Tryd.ntmps51
      go_wp2_with (go_at_call 54; (with_reducible refine (wordR_any s w).mono ?_); rintro e w1 ⟨rfl, rfl⟩; rw [H2.out])
      go_ret
      exact ⟨ret_bool hR.out.symm, rfl⟩
    by_cases g2 : 122 < b
    · have hR := Lib.hid (hn0.out (fun h => by have := hok0.out.1 h; omega))
      have i1 : (97 : Int) ≤ (b : Int) := by omega
      have i2 : (122 : Int) < (b : Int) := by omega
      clear h2 hlt0 hok0 hh hn0 g1 g2 h0 h1
      go_enter Tryd.func51, Tryd.ntmps51
      go_wp2_with (go_at_call 54; (with_reducible refine (wordR_any s w).mono ?_); rintro e w1 ⟨rfl, rfl⟩; rw [H2.out])
      go_ret
      exact ⟨ret_bool hR.out.symm, rfl⟩
    · have HOK0 := Lib.hid (hh.out (hok0.out.2 ⟨by omega, by omega⟩))
      have i1 : (97 : Int) ≤ (b : Int) := by omega
      have i2 : (b : Int) ≤ 122 := by omega
      clear h2 hlt0 hok0 hh hn0 g1 g2
      go_enter Tryd.func51, Tryd.ntmps51
      go_wp2_with (go_at_call 54; (with_reducible refine (wordR_any s w).mono ?_); rintro e w1 ⟨rfl, rfl⟩; rw [H2.out])
      clear hx0 i1 i2
      go_loopw [3, 4, 5] (fun i _ _ wr => wr = w ∧ ∃ pos : Nat, 1 ≤ pos ∧ pos ≤ s.size ∧ i = .int .i64 pos ∧ Hid (∀ i, i < pos → (h : i < s.size) → okc i s[i].toNat)) (fun i _ _ _ => s.size - (intOf i).toNat)
      case atStart => exact ⟨rfl, 1, Nat.le_refl _, by omega, rfl, HOK0⟩
      case round =>
        obtain ⟨rfl, pos, hp1, hpos, rfl, hok⟩ := hrel
        by_cases hlt : pos < s.size
        · have hx := ix_str s pos hlt
          have i1 : (pos : Int) < (s.size : Int) := by omega
          by_cases hg : okc pos (s[pos]).toNat
          · have HOK := Lib.hid (show ∀ i, i < pos + 1 → (h : i < s.size) → okc i s[i].toNat from fun i hi h => (Nat.lt_succ_iff_lt_or_eq.1 hi).elim (fun h' => hok.out i h' h) (fun e => by subst e; exact hg))
            generalize (s[pos]).toNat = b at hg hx
            rcases hg with ⟨g1, g2⟩ | ⟨g0, g⟩
            · have j1 : (97 : Int) ≤ (b : Int) := by omega
              have j2 : (b : Int) ≤ 122 := by omega
              have j3 : (48 : Int) ≤ (b : Int) := by omega
              have j4 : (57 : Int) < (b : Int) := by omega
              clear g1 g2
              go_wp2
              go_roundw
              case rel => exact ⟨trivial, pos + 1, by omega, by omega, by go_num, HOK⟩
              case measure => simp [intOf]; omega
            · have g' : b = 95 ∨ (48 ≤ b ∧ b ≤ 57) ∨ (97 ≤ b ∧ b ≤ 122) := by omega
              by_cases h95 : b = 95
              · subst h95
                clear g g'
                go_wp2
                go_roundw
                case rel => exact ⟨trivial, pos + 1, by omega, by omega, by go_num, HOK⟩
                case measure => simp [intOf]; omega
              · by_cases hl : 97 ≤ b
                · omega
                · have j1 : (b : Int) < 97 := by omega
                  have j3 : (48 : Int) ≤ (b : Int) := by omega
                  have j4 : (b : Int) ≤ 57 := by omega
                  clear g g' h95 hl
                  go_wp2
                  go_roundw
                  case rel => exact ⟨trivial, pos + 1, by omega, by omega, by go_num, HOK⟩
                  case measure => simp [intOf]; omega
          · have hR : Hid (right s = false) := Lib.hid (by unfold right; simp only [decide_eq_false_iff_not]; rintro ⟨_, _, _, h⟩; exact hg (h pos hlt))
            have hp0 : pos ≠ 0 := by omega
            generalize (s[pos]).toNat = b at hg hx
            unfold okc at hg
            have h95 : ((b : Int) != 95) = true := by simp; omega
            by_cases k1 : b < 48
            · have j1 : (b : Int) < 97 := by omega
              have j3 : (b : Int) < 48 := by omega
              clear hg k1 hok
              go_wp2
              go_ret
              exact ⟨ret_bool hR.out.symm, rfl⟩
            · by_cases k2 : b < 97
              · have j1 : (b : Int) < 97 := by omega
                have j3 : (48 : Int) ≤ (b : Int) := by omega
                have j4 : (57 : Int) < (b : Int) := by omega
                clear hg k1 k2 hok
                go_wp2
                go_ret
                · exact ⟨ret_bool hR.out.symm, rfl⟩
                · rename_i hq
                  exfalso
                  simp at hq
                  omega
              · have j1 : (97 : Int) ≤ (b : Int) := by omega
                have j2 : (122 : Int) < (b : Int) := by omega
                have j3 : (48 : Int) ≤ (b : Int) := by omega
                have j4 : (57 : Int) < (b : Int) := by omega
                clear hg k1 k2 hok
                go_wp2
                go_ret
                · exact ⟨ret_bool hR.out.symm, rfl⟩
                · rename_i hq
                  exfalso
                  simp at hq
                  omega
        · have hge : (s.size : Int) ≤ (pos : Int) := by omega
          have hR : Hid (right s = true) := Lib.hid (by unfold right; simp only [decide_eq_true_eq]; exact ⟨by omega, by omega, H2.out, fun i hi => hok.out i (by omega) hi⟩)
          clear hlt
          go_wp2
          go_ret
          exact ⟨ret_bool hR.out.symm, rfl⟩
  · have hR : Hid (right s = false) := Lib.hid (by unfold right; simp [h2])
    have hne : 0 < word s := by have := word_nonneg s; omega
    clear h0 h1 h2
    go_enter Tryd.func51, Tryd.ntmps51
    go_wp2_with (go_at_call 54; (with_reducible refine (wordR_any s w).mono ?_); rintro e w1 ⟨rfl, rfl⟩)
    go_ret
    exact ⟨ret_bool hR.out.symm, rfl⟩
end Go.Proofs.YtigdibglkejciaaDoor.Ex
