/-
  Lists of texts in memory; paths.
-/
import Derived.Test.YtigdibglkejciaaDoorE3
import Derived.Deep.RegionHeld3
namespace Go.Proofs.YtigdibglkejciaaDoor.Ex
open Go.RowKit Go
set_option linter.unusedSimpArgs false

/-- A slice of texts, below block B, reads so. -/
def StrsIn (W : World) (B : Nat) (a : Option Addr) (len : Nat) (l : List ByteArray) : Prop := len = l.length ∧ l.length ≤ maxLen ∧ (0 < l.length → ∃ g off, a = some ⟨g, off, none⟩ ∧ g < B ∧ ∀ i (h : i < l.length), W.cell? ⟨g, off + i, none⟩ = some (.string l[i]))
theorem StrsIn.kept {W W' : World} {B : Nat} {a : Option Addr} {len : Nat} {l : List ByteArray} (h : StrsIn W B a len l) (hb : Below B W W') : StrsIn W' B a len l :=
  ⟨h.1, h.2.1, fun hp => by obtain ⟨g, off, e, hg, hi⟩ := h.2.2 hp; exact ⟨g, off, e, hg, fun i hlt => (hb.cell (p := ⟨g, _, none⟩) hg).trans (hi i hlt)⟩⟩
theorem StrsIn.mono {W : World} {B B' : Nat} {a : Option Addr} {len : Nat} {l : List ByteArray} (h : StrsIn W B a len l) (hb : B ≤ B') : StrsIn W B' a len l :=
  ⟨h.1, h.2.1, fun hp => by obtain ⟨g, off, e, hg, hi⟩ := h.2.2 hp; exact ⟨g, off, e, by omega, hi⟩⟩
/-- A path. -/
def path (l : List ByteArray) : Bool := decide (1 ≤ l.length ∧ l.length ≤ 16 ∧ ∀ i, (h : i < l.length) → right l[i] = true)
set_option maxHeartbeats 2000000 in
theorem path_any (B : Nat) (a : Option Addr) (c : Nat) (l : List ByteArray) (w : World) (hB : B ≤ w.heap.size) (hW : Words w) (hl : StrsIn w B a l.length l) : Calls Tryd.prog 48 #[.slice a l.length c] w fun e w' => e = .returned (.bool (path l)) ∧ Below w.heap.size w w' := by
  have HW := Lib.hid hW
  have hp0 := hW.pos
  have HL := Lib.hid hl
  clear hW hl
  by_cases h0 : l.length = 0
  · have hR : Hid (path l = false) := Lib.hid (by unfold path; simp [h0])
    have h0' : ((l.length : Int) == 0) = true := by simp [h0]
    clear h0
    go_enter Tryd.func48, Tryd.ntmps48
    go_wp2
    go_ret
    exact ⟨ret_bool hR.out.symm, Below.refl _ _⟩
  have h0' : ((l.length : Int) == 0) = false := by simpa using h0
  by_cases h1 : 16 < l.length
  · have hR : Hid (path l = false) := Lib.hid (by unfold path; simp only [decide_eq_false_iff_not]; omega)
    have h1' : (16 : Int) < (l.length : Int) := by omega
    clear h0 h1
    go_enter Tryd.func48, Tryd.ntmps48
    go_wp2
    go_ret
    exact ⟨ret_bool hR.out.symm, Below.refl _ _⟩
  have h1' : (l.length : Int) ≤ 16 := by omega
  go_enter Tryd.func48, Tryd.ntmps48
  go_wp2
  go_loopw [15] (fun i wr => ∃ k : Nat, k ≤ l.length ∧ i = .int .i64 k ∧ Below w.heap.size w wr ∧ Hid (∀ i, i < k → (h : i < l.length) → right l[i] = true)) (fun i _ => l.length - (intOf i).toNat)
  case atStart => exact ⟨0, Nat.zero_le _, rfl, Below.refl _ _, fun i h => by omega⟩
  case round =>
    obtain ⟨k, hk, rfl, hbel, hok⟩ := hrel
    have hs := hbel.size
    by_cases hlt : k < l.length
    · obtain ⟨g, off, rfl, hg, hc⟩ := HL.out.2.2 (by omega)
      have c0 : wr.cell? ⟨g, off + k, none⟩ = _ := (hbel.cell (p := ⟨g, _, none⟩) (by show g < w.heap.size; omega)).trans (hc k hlt)
      have i1 : (0 : Int) ≤ (k : Int) := by omega
      have i2 : (k : Int) < (l.length : Int) := by omega
      have HR := Lib.hid (right_any l[k] wr (HW.out.below hbel hp0))
      have hyes : Hid (right l[k] = true → ∀ i, i < k + 1 → (h : i < l.length) → right l[i] = true) := Lib.hid (fun hr i hi h => (Nat.lt_succ_iff_lt_or_eq.1 hi).elim (fun h' => hok.out i h' h) (fun e => by subst e; exact hr))
      have hno : Hid (right l[k] = false → path l = false) := Lib.hid (fun hr => by unfold path; simp only [decide_eq_false_iff_not]; rintro ⟨_, _, h⟩; rw [h k hlt] at hr; cases hr)
      generalize l[k] = s at c0 HR hyes hno
      obtain ⟨b, hb⟩ : ∃ b, right s = b := ⟨_, rfl⟩
      rw [hb] at HR hyes hno
      clear hc hb hok
      cases b
      · have hR := Lib.hid (hno.out rfl)
        clear hyes hno
        go_wp2_with (go_at_call 53; (with_reducible refine HR.out.mono ?_); rintro e w1 ⟨rfl, hb1⟩)
        go_ret
        exact ⟨ret_bool hR.out.symm, hbel.trans (hb1.mono hs)⟩
      · have hok2 := Lib.hid (hyes.out rfl)
        clear hyes hno
        go_wp2_with (go_at_call 53; (with_reducible refine HR.out.mono ?_); rintro e w1 ⟨rfl, hb1⟩)
        go_roundw
        case rel => exact ⟨k + 1, by omega, by go_num, hbel.trans (hb1.mono hs), hok2⟩
        case measure => simp [intOf]; omega
    · have hge : (l.length : Int) ≤ (k : Int) := by omega
      have hR : Hid (path l = true) := Lib.hid (by unfold path; simp only [decide_eq_true_eq]; exact ⟨by omega, by omega, fun i hi => hok.out i (by omega) hi⟩)
      go_wp2
      go_ret
      exact ⟨ret_bool hR.out.symm, hbel⟩
set_option maxHeartbeats 2000000 in
theorem pathR_any (B : Nat) (a : Option Addr) (c : Nat) (l : List ByteArray) (w : World) (hl : StrsIn w B a l.length l) : Calls Tryd.prog 39 #[.slice a l.length c] w fun e w' => e = .returned (.bool (path l)) ∧ w = w' := by
  have hml := hl.2.1
  have HL := Lib.hid hl
  clear hl
  unfold maxLen at hml
  go_enter Tryd.func39, Tryd.ntmps39
  go_wp2
  go_loopw [3] (fun i wr => wr = w ∧ ∃ k : Nat, k ≤ l.length ∧ i = .int .i64 k ∧ Hid (∀ i, i < k → (h : i < l.length) → right l[i] = true)) (fun i _ => l.length - (intOf i).toNat)
  case atStart => exact ⟨rfl, 0, Nat.zero_le _, rfl, fun i h => by omega⟩
  case round =>
    obtain ⟨rfl, k, hk, rfl, hok⟩ := hrel
    by_cases hlt : k < l.length
    · obtain ⟨g, off, rfl, hg, hc⟩ := HL.out.2.2 (by omega)
      have c0 : wr.cell? ⟨g, off + k, none⟩ = _ := hc k hlt
      have i1 : (0 : Int) ≤ (k : Int) := by omega
      have i2 : (k : Int) < (l.length : Int) := by omega
      have HR := Lib.hid (rightR_any l[k] wr)
      have hyes : Hid (right l[k] = true → ∀ i, i < k + 1 → (h : i < l.length) → right l[i] = true) := Lib.hid (fun hr i hi h => (Nat.lt_succ_iff_lt_or_eq.1 hi).elim (fun h' => hok.out i h' h) (fun e => by subst e; exact hr))
      have hno : Hid (right l[k] = false → path l = false) := Lib.hid (fun hr => by unfold path; simp only [decide_eq_false_iff_not]; rintro ⟨_, _, h⟩; rw [h k hlt] at hr; cases hr)
      generalize l[k] = s at c0 HR hyes hno
      obtain ⟨b, hb⟩ : ∃ b, right s = b := ⟨_, rfl⟩
      rw [hb] at HR hyes hno
      clear hc hb hok
      cases b
      · have hR := Lib.hid (hno.out rfl)
        clear hyes hno
        go_wp2_with (go_at_call 51; (with_reducible refine HR.out.mono ?_); rintro e w1 ⟨rfl, rfl⟩)
        go_ret
        exact ⟨ret_bool hR.out.symm, rfl⟩
      · have hok2 := Lib.hid (hyes.out rfl)
        clear hyes hno
        go_wp2_with (go_at_call 51; (with_reducible refine HR.out.mono ?_); rintro e w1 ⟨rfl, rfl⟩)
        go_roundw
        case rel => exact ⟨trivial, k + 1, by omega, by go_num, hok2⟩
        case measure => simp [intOf]; omega
    · have hge : (l.length : Int) ≤ (k : Int) := by omega
      have hall : Hid (∀ i, (h : i < l.length) → right l[i] = true) := Lib.hid (fun i hi => hok.out i (by omega) hi)
      by_cases h1 : 1 ≤ l.length
      · have j1 : (1 : Int) ≤ (l.length : Int) := by omega
        by_cases h2 : l.length ≤ 16
        · have j2 : (l.length : Int) ≤ 16 := by omega
          have hR : Hid (path l = true) := Lib.hid (by unfold path; simp only [decide_eq_true_eq]; exact ⟨h1, h2, hall.out⟩)
          clear h1 h2
          go_wp2
          go_ret
          exact ⟨ret_bool (by simp [hR.out, j2]), rfl⟩
        · have j2 : (16 : Int) < (l.length : Int) := by omega
          have hR : Hid (path l = false) := Lib.hid (by unfold path; simp only [decide_eq_false_iff_not]; omega)
          clear h1 h2
          go_wp2
          go_ret
          exact ⟨ret_bool (by simp [hR.out]; omega), rfl⟩
      · have j1 : (l.length : Int) < 1 := by omega
        have hR : Hid (path l = false) := Lib.hid (by unfold path; simp only [decide_eq_false_iff_not]; omega)
        clear h1
        go_wp2
        go_ret
        exact ⟨ret_bool (by simp [hR.out]), rfl⟩
end Go.Proofs.YtigdibglkejciaaDoor.Ex
