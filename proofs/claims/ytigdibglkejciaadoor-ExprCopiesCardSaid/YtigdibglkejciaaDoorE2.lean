/-
  Right of a name, in the program and in the reference.
-/
import Derived.Test.YtigdibglkejciaaDoorE1
namespace Go.Proofs.YtigdibglkejciaaDoor.Ex
open Go.RowKit Go
set_option linter.unusedSimpArgs false

def okc (i b : Nat) : Prop := (97 ≤ b ∧ b ≤ 122) ∨ (i ≠ 0 ∧ (b = 95 ∨ (48 ≤ b ∧ b ≤ 57)))
instance (i b : Nat) : Decidable (okc i b) := by unfold okc; infer_instance
/-- Is a text a name? -/
def right (s : ByteArray) : Bool := decide (1 ≤ s.size ∧ s.size ≤ 16 ∧ word s = 0 ∧ ∀ i, (h : i < s.size) → okc i s[i].toNat)
theorem decodeN_high (n b0 b1 b2 b3 : Nat) (h : 128 ≤ b0) : 128 ≤ (Lib.decodeN n b0 b1 b2 b3).1 := by
  unfold Lib.decodeN
  rw [if_neg (by omega)]
  repeat' split
  all_goals simp only
  all_goals omega
theorem decode_high (s : ByteArray) (pos : Nat) (h : pos < s.size) (hb : 128 ≤ (s[pos]).toNat) : 128 ≤ (Utf8.decode s pos).1 := by
  rw [Lib.decode_at]
  refine decodeN_high _ _ _ _ _ ?_
  have e : s.get! pos = s[pos]'h := by
    simp [ByteArray.get!, getElem!_pos, h]
    rfl
  rw [e]; exact hb
theorem small_yes (c : Int) (w : World) (h1 : 97 ≤ c) (h2 : c ≤ 122) : Calls Tryd.prog 56 #[.int .i32 c] w fun e w' => e = .returned (.bool true) ∧ w = w' :=
  (small_any c w).mono fun e w' ⟨h, h'⟩ => ⟨by rw [h]; simp [h1, h2], h'⟩
theorem small_no (c : Int) (w : World) (h : c < 97 ∨ 122 < c) : Calls Tryd.prog 56 #[.int .i32 c] w fun e w' => e = .returned (.bool false) ∧ w = w' :=
  (small_any c w).mono fun e w' ⟨h1, h'⟩ => ⟨by rw [h1]; exact ret_bool (by simp; omega), h'⟩
theorem okc_lt {i b : Nat} (h : okc i b) : b < 128 := by unfold okc at h; omega
theorem bel_iter (w : World) (s : ByteArray) (pos : Nat) : Below w.heap.size w (w.iter s pos) := (Below.refl _ _).alloc (Nat.le_refl _) _
/-- The next letter: below 128 the byte itself. -/
theorem next_any {P : Program} (w : World) (s : ByteArray) (pos : Nat) (h : pos < s.size) : ∃ (c : Int) (wd : Nat), (∀ ty, (Instr.next (.pointer (some ⟨w.heap.size, 0, none⟩)) true ty).run P (w.iter s pos) = .ok (.tuple #[.bool true, .int .i64 pos, .int .i32 c]) (w.iter s (pos + wd))) ∧
    ((s[pos]).toNat < 128 → c = ((s[pos]).toNat : Int) ∧ wd = 1) ∧ (128 ≤ (s[pos]).toNat → 128 ≤ c) := by
  by_cases hb : (s[pos]).toNat < 128
  · exact ⟨_, 1, fun ty => run_next_ascii w s pos ty h hb, fun _ => ⟨rfl, rfl⟩, fun h => by omega⟩
  · exact ⟨_, _, fun ty => run_next_any w s pos ty h, fun h => absurd h hb, fun h' => by have := decode_high s pos h h'; omega⟩
set_option maxHeartbeats 2000000 in
theorem right_any (s : ByteArray) (w : World) (hW : Words w) : Calls Tryd.prog 53 #[.string s] w fun e w' => e = .returned (.bool (right s)) ∧ Below w.heap.size w w' := by
  have HW := Lib.hid hW
  have hp := hW.pos
  clear hW
  by_cases h0 : s.size = 0
  · have hR : Hid (right s = false) := Lib.hid (by unfold right; simp [h0])
    have he : (s.toList == []) = true := by rw [ByteArray.toList_eq]; have : s.data.toList.length = 0 := h0; simp [List.length_eq_zero_iff.1 this]
    clear h0
    go_enter Tryd.func53, Tryd.ntmps53
    go_wp2
    go_ret
    exact ⟨ret_bool hR.out.symm, Below.refl _ _⟩
  have he : (s.toList == []) = false := by
    rw [ByteArray.toList_eq, beq_eq_false_iff_ne]
    intro e
    exact h0 (by have : s.data.toList.length = 0 := by rw [e]; rfl
                 exact this)
  by_cases h1 : 16 < s.size
  · have hR : Hid (right s = false) := Lib.hid (by unfold right; simp; omega)
    have h1' : (16 : Int) < (s.size : Int) := by omega
    clear h0 h1
    go_enter Tryd.func53, Tryd.ntmps53
    go_wp2
    go_ret
    exact ⟨ret_bool hR.out.symm, Below.refl _ _⟩
  have h1' : (s.size : Int) ≤ 16 := by omega
  by_cases h2 : word s = 0
  · have hne : (word s != 0) = false := by simp [h2]
    have H2 := Lib.hid h2
    clear h2
    go_enter Tryd.func53, Tryd.ntmps53
    go_wp2_with (go_at_call 55; (with_reducible refine (word_any s w HW.out).mono ?_); rintro e w1 ⟨rfl, rfl⟩)
    go_loopw [3] (fun _ wr => ∃ pos : Nat, pos ≤ s.size ∧ wr = w.iter s pos ∧ Hid (∀ i, i < pos → (h : i < s.size) → okc i s[i].toNat)) (fun _ wr => s.size - wr.iterPos w.heap.size)
    case atStart => exact ⟨0, Nat.zero_le _, rfl, fun i hi => by omega⟩
    case round =>
      obtain ⟨pos, hpos, rfl, hok⟩ := hrel
      have hbel := bel_iter w s pos
      have hmes : (w.iter s pos).iterPos w.heap.size = pos := World.iterPos_iter w s pos
      by_cases hlt : pos < s.size
      · obtain ⟨c, wd, hnx, hc, hwd⟩ := next_any (P := Tryd.prog) w s pos hlt
        by_cases hg : okc pos (s[pos]).toNat
        · obtain ⟨hc1, hwd1⟩ := hc (okc_lt hg)
          have HOK := Lib.hid (show ∀ i, i < pos + 1 → (h : i < s.size) → okc i s[i].toNat from fun i hi h => (Nat.lt_succ_iff_lt_or_eq.1 hi).elim (fun h' => hok.out i h' h) (fun e => by subst e; exact hg))
          have hmes2 : (w.iter s (pos + 1)).iterPos w.heap.size = pos + 1 := World.iterPos_iter w s (pos + 1)
          generalize (s[pos]).toNat = b at hg hc1
          subst hwd1
          subst hc1
          clear hc hwd
          rcases hg with ⟨g1, g2⟩ | ⟨g0, g⟩
          · have i1 : (97 : Int) ≤ (b : Int) := by omega
            have i2 : (b : Int) ≤ 122 := by omega
            clear g1 g2
            go_wp2_with (go_at_call 56; (with_reducible refine (small_any _ _).mono ?_); rintro e w1 ⟨rfl, rfl⟩)
            go_roundw
            case rel => exact ⟨pos + 1, by omega, rfl, HOK⟩
            case measure => simp [hmes, hmes2]; omega
          · have g0' : ((pos : Int) == 0) = false := by simpa using g0
            by_cases hsm : 97 ≤ b ∧ b ≤ 122
            · obtain ⟨g1, g2⟩ := hsm
              have i1 : (97 : Int) ≤ (b : Int) := by omega
              have i2 : (b : Int) ≤ 122 := by omega
              clear g1 g2
              go_wp2_with (go_at_call 56; (with_reducible refine (small_any _ _).mono ?_); rintro e w1 ⟨rfl, rfl⟩)
              go_roundw
              case rel => exact ⟨pos + 1, by omega, rfl, HOK⟩
              case measure => simp [hmes, hmes2]; omega
            · have i1 : (b : Int) < 97 := by omega
              by_cases h95 : b = 95
              · subst h95
                clear g hsm i1
                go_wp2_with (go_at_call 56; (with_reducible refine (small_any _ _).mono ?_); rintro e w1 ⟨rfl, rfl⟩)
                go_roundw
                case rel => exact ⟨pos + 1, by omega, rfl, HOK⟩
                case measure => simp [hmes, hmes2]; omega
              · have e95 : ((b : Int) != 95) = true := by simp; omega
                have i2 : (48 : Int) ≤ (b : Int) := by omega
                have i3 : (b : Int) ≤ 57 := by omega
                clear g hsm h95
                go_wp2_with (go_at_call 56; (with_reducible refine (small_any _ _).mono ?_); rintro e w1 ⟨rfl, rfl⟩)
                go_roundw
                case rel => exact ⟨pos + 1, by omega, rfl, HOK⟩
                case measure => simp [hmes, hmes2]; omega
        · have hR : Hid (right s = false) := Lib.hid (by unfold right; simp only [decide_eq_false_iff_not]; rintro ⟨_, _, _, h⟩; exact hg (h pos hlt))
          have hns : c < 97 ∨ 122 < c := by
            by_cases hb : (s[pos]).toNat < 128
            · obtain ⟨rfl, _⟩ := hc hb
              unfold okc at hg
              omega
            · have := hwd (by omega); omega
          have HNS := Lib.hid hns
          have hps : pos ≠ 0 → ((c != 95) = true ∧ (c < 48 ∨ 57 < c)) := by
            intro h0
            by_cases hb : (s[pos]).toNat < 128
            · obtain ⟨rfl, _⟩ := hc hb
              unfold okc at hg
              refine ⟨?_, by omega⟩
              simp
              omega
            · have := hwd (by omega)
              refine ⟨?_, by omega⟩
              simp
              omega
          have hbel2 := bel_iter w s (pos + wd)
          clear hc hwd hg hok hmes hbel hns
          by_cases h0 : pos = 0
          · subst h0
            clear hps
            go_wp2_with (go_at_call 56; (with_reducible refine (small_no _ _ HNS.out).mono ?_); rintro e w1 ⟨rfl, rfl⟩)
            go_ret
            exact ⟨ret_bool hR.out.symm, by simpa using hbel2⟩
          · have h0' : ((pos : Int) == 0) = false := by simpa using h0
            obtain ⟨e95, h48 | h57⟩ := hps h0
            · clear hps
              go_wp2_with (go_at_call 56; (with_reducible refine (small_no _ _ HNS.out).mono ?_); rintro e w1 ⟨rfl, rfl⟩)
              go_ret
              exact ⟨ret_bool hR.out.symm, hbel2⟩
            · have h57' : ¬ c < 48 := by omega
              clear hps
              go_wp2_with (go_at_call 56; (with_reducible refine (small_no _ _ HNS.out).mono ?_); rintro e w1 ⟨rfl, rfl⟩)
              go_ret
              exact ⟨ret_bool hR.out.symm, hbel2⟩
      · have hge : ¬ pos < s.size := hlt
        have hnx := fun ty => run_next_end (P := Tryd.prog) w s pos ty hge
        have hR : Hid (right s = true) := Lib.hid (by unfold right; simp only [decide_eq_true_eq]; exact ⟨by omega, by omega, H2.out, fun i hi => hok.out i (by omega) hi⟩)
        clear hlt hge hmes
        go_wp2
        go_ret
        exact ⟨ret_bool hR.out.symm, hbel⟩
  · have hR : Hid (right s = false) := Lib.hid (by unfold right; simp [h2])
    have hne : (word s != 0) = true := by simp [h2]
    clear h0 h1 h2
    go_enter Tryd.func53, Tryd.ntmps53
    go_wp2_with (go_at_call 55; (with_reducible refine (word_any s w HW.out).mono ?_); rintro e w1 ⟨rfl, rfl⟩)
    go_ret
    exact ⟨ret_bool hR.out.symm, Below.refl _ _⟩
end Go.Proofs.YtigdibglkejciaaDoor.Ex
