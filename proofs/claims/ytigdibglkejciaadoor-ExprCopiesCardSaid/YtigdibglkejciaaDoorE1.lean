/-
  Names: words, letters, Right of a name in the program and in the reference.
-/
import Derived.Test.YtigdibglkejciaaDoorProg
import Derived.WalkKit
import Derived.LoopTactic
import Derived.KernelRfl
import Derived.Outline
import Derived.Lib.Hide
import Derived.Lib.OthersKept
import Derived.Lib.DecodeN
import Derived.Deep.QuietTactic
import Derived.BigQuiet
namespace Go.Proofs.YtigdibglkejciaaDoor.Ex
open Go.RowKit Go
set_option linter.unusedSimpArgs false

def K1 : ByteArray := { data := #[97, 110, 121] }
def K2 : ByteArray := { data := #[98, 111, 111, 108] }
def K3 : ByteArray := { data := #[99, 111, 109, 112, 117, 116, 101, 100] }
def K4 : ByteArray := { data := #[102, 97, 108, 115, 101] }
def K5 : ByteArray := { data := #[105, 110, 116] }
def K6 : ByteArray := { data := #[110, 111, 110, 101] }
def K7 : ByteArray := { data := #[114, 101, 115, 111, 117, 114, 99, 101] }
def K8 : ByteArray := { data := #[115, 116, 114, 105, 110, 103] }
def K9 : ByteArray := { data := #[116, 114, 117, 101] }
/-- The words, where they lie. -/
structure Words (W : World) : Prop where
  c0 : W.cell? ⟨0, 0, none⟩ = some (.string K1)
  c1 : W.cell? ⟨0, 1, none⟩ = some (.string K2)
  c2 : W.cell? ⟨0, 2, none⟩ = some (.string K3)
  c3 : W.cell? ⟨0, 3, none⟩ = some (.string K4)
  c4 : W.cell? ⟨0, 4, none⟩ = some (.string K5)
  c5 : W.cell? ⟨0, 5, none⟩ = some (.string K6)
  c6 : W.cell? ⟨0, 6, none⟩ = some (.string K7)
  c7 : W.cell? ⟨0, 7, none⟩ = some (.string K8)
  c8 : W.cell? ⟨0, 8, none⟩ = some (.string K9)
theorem Words.below {W W' : World} {B : Nat} (h : Words W) (hb : Below B W W') (hB : 0 < B) : Words W' :=
  ⟨(hb.cell (p := ⟨0, 0, none⟩) hB).trans h.c0, (hb.cell (p := ⟨0, 1, none⟩) hB).trans h.c1, (hb.cell (p := ⟨0, 2, none⟩) hB).trans h.c2, (hb.cell (p := ⟨0, 3, none⟩) hB).trans h.c3, (hb.cell (p := ⟨0, 4, none⟩) hB).trans h.c4, (hb.cell (p := ⟨0, 5, none⟩) hB).trans h.c5, (hb.cell (p := ⟨0, 6, none⟩) hB).trans h.c6, (hb.cell (p := ⟨0, 7, none⟩) hB).trans h.c7, (hb.cell (p := ⟨0, 8, none⟩) hB).trans h.c8⟩
theorem Words.pos {W : World} (h : Words W) : 0 < W.heap.size := World.block_lt_of_cell? W ⟨0, 0, none⟩ h.c0
/-- The words. -/
def WW : List (List UInt8) := [[97, 110, 121], [98, 111, 111, 108], [99, 111, 109, 112, 117, 116, 101, 100], [102, 97, 108, 115, 101], [105, 110, 116], [110, 111, 110, 101], [114, 101, 115, 111, 117, 114, 99, 101], [115, 116, 114, 105, 110, 103], [116, 114, 117, 101]]
/-- The number of a word. -/
def word (s : ByteArray) : Int := if s.toList == [97, 110, 121] then 1 else if s.toList == [98, 111, 111, 108] then 2 else if s.toList == [99, 111, 109, 112, 117, 116, 101, 100] then 3 else if s.toList == [102, 97, 108, 115, 101] then 4 else if s.toList == [105, 110, 116] then 5 else if s.toList == [110, 111, 110, 101] then 6 else if s.toList == [114, 101, 115, 111, 117, 114, 99, 101] then 7 else if s.toList == [115, 116, 114, 105, 110, 103] then 8 else if s.toList == [116, 114, 117, 101] then 9 else 0
theorem ret_int {k : IntKind} {a b : Int} (h : a = b) : Ending.returned (.int k a) = .returned (.int k b) := by rw [h]
theorem ret_bool {a b : Bool} (h : a = b) : Ending.returned (.bool a) = .returned (.bool b) := by rw [h]
theorem word_is (s : ByteArray) (k : Nat) (hk : k < 9) (h0 : ∀ j, j < k → ∀ x, WW[j]? = some x → (s.toList == x) = false) (h : ∀ x, WW[k]? = some x → (s.toList == x) = true) : word s = (k : Int) + 1 := by
  have c : k = 0 ∨ k = 1 ∨ k = 2 ∨ k = 3 ∨ k = 4 ∨ k = 5 ∨ k = 6 ∨ k = 7 ∨ k = 8 := by omega
  rcases c with rfl | rfl | rfl | rfl | rfl | rfl | rfl | rfl | rfl
  · have e := h _ rfl
    unfold word; simp only [e, if_true, Bool.false_eq_true, if_false]; rfl
  · have e := h _ rfl
    have n0 := h0 0 (by omega) _ rfl
    unfold word; simp only [e, n0, if_true, Bool.false_eq_true, if_false]; rfl
  · have e := h _ rfl
    have n0 := h0 0 (by omega) _ rfl
    have n1 := h0 1 (by omega) _ rfl
    unfold word; simp only [e, n0, n1, if_true, Bool.false_eq_true, if_false]; rfl
  · have e := h _ rfl
    have n0 := h0 0 (by omega) _ rfl
    have n1 := h0 1 (by omega) _ rfl
    have n2 := h0 2 (by omega) _ rfl
    unfold word; simp only [e, n0, n1, n2, if_true, Bool.false_eq_true, if_false]; rfl
  · have e := h _ rfl
    have n0 := h0 0 (by omega) _ rfl
    have n1 := h0 1 (by omega) _ rfl
    have n2 := h0 2 (by omega) _ rfl
    have n3 := h0 3 (by omega) _ rfl
    unfold word; simp only [e, n0, n1, n2, n3, if_true, Bool.false_eq_true, if_false]; rfl
  · have e := h _ rfl
    have n0 := h0 0 (by omega) _ rfl
    have n1 := h0 1 (by omega) _ rfl
    have n2 := h0 2 (by omega) _ rfl
    have n3 := h0 3 (by omega) _ rfl
    have n4 := h0 4 (by omega) _ rfl
    unfold word; simp only [e, n0, n1, n2, n3, n4, if_true, Bool.false_eq_true, if_false]; rfl
  · have e := h _ rfl
    have n0 := h0 0 (by omega) _ rfl
    have n1 := h0 1 (by omega) _ rfl
    have n2 := h0 2 (by omega) _ rfl
    have n3 := h0 3 (by omega) _ rfl
    have n4 := h0 4 (by omega) _ rfl
    have n5 := h0 5 (by omega) _ rfl
    unfold word; simp only [e, n0, n1, n2, n3, n4, n5, if_true, Bool.false_eq_true, if_false]; rfl
  · have e := h _ rfl
    have n0 := h0 0 (by omega) _ rfl
    have n1 := h0 1 (by omega) _ rfl
    have n2 := h0 2 (by omega) _ rfl
    have n3 := h0 3 (by omega) _ rfl
    have n4 := h0 4 (by omega) _ rfl
    have n5 := h0 5 (by omega) _ rfl
    have n6 := h0 6 (by omega) _ rfl
    unfold word; simp only [e, n0, n1, n2, n3, n4, n5, n6, if_true, Bool.false_eq_true, if_false]; rfl
  · have e := h _ rfl
    have n0 := h0 0 (by omega) _ rfl
    have n1 := h0 1 (by omega) _ rfl
    have n2 := h0 2 (by omega) _ rfl
    have n3 := h0 3 (by omega) _ rfl
    have n4 := h0 4 (by omega) _ rfl
    have n5 := h0 5 (by omega) _ rfl
    have n6 := h0 6 (by omega) _ rfl
    have n7 := h0 7 (by omega) _ rfl
    unfold word; simp only [e, n0, n1, n2, n3, n4, n5, n6, n7, if_true, Bool.false_eq_true, if_false]; rfl
theorem word_none (s : ByteArray) (h0 : ∀ j, j < 9 → ∀ x, WW[j]? = some x → (s.toList == x) = false) : word s = 0 := by
  have n0 := h0 0 (by omega) _ rfl
  have n1 := h0 1 (by omega) _ rfl
  have n2 := h0 2 (by omega) _ rfl
  have n3 := h0 3 (by omega) _ rfl
  have n4 := h0 4 (by omega) _ rfl
  have n5 := h0 5 (by omega) _ rfl
  have n6 := h0 6 (by omega) _ rfl
  have n7 := h0 7 (by omega) _ rfl
  have n8 := h0 8 (by omega) _ rfl
  unfold word; simp only [n0, n1, n2, n3, n4, n5, n6, n7, n8, Bool.false_eq_true, if_false]
theorem kl1 : K1.toList = [97, 110, 121] := by rw [ByteArray.toList_eq]; rfl
theorem kl2 : K2.toList = [98, 111, 111, 108] := by rw [ByteArray.toList_eq]; rfl
theorem kl3 : K3.toList = [99, 111, 109, 112, 117, 116, 101, 100] := by rw [ByteArray.toList_eq]; rfl
theorem kl4 : K4.toList = [102, 97, 108, 115, 101] := by rw [ByteArray.toList_eq]; rfl
theorem kl5 : K5.toList = [105, 110, 116] := by rw [ByteArray.toList_eq]; rfl
theorem kl6 : K6.toList = [110, 111, 110, 101] := by rw [ByteArray.toList_eq]; rfl
theorem kl7 : K7.toList = [114, 101, 115, 111, 117, 114, 99, 101] := by rw [ByteArray.toList_eq]; rfl
theorem kl8 : K8.toList = [115, 116, 114, 105, 110, 103] := by rw [ByteArray.toList_eq]; rfl
theorem kl9 : K9.toList = [116, 114, 117, 101] := by rw [ByteArray.toList_eq]; rfl
theorem ix0 (W : World) : (Instr.index 64 (.agg #[.string K1, .string K2, .string K3, .string K4, .string K5, .string K6, .string K7, .string K8, .string K9]) (.int .i64 0)).run Tryd.prog W = .ok (.string K1) W := by rfl
theorem ix1 (W : World) : (Instr.index 64 (.agg #[.string K1, .string K2, .string K3, .string K4, .string K5, .string K6, .string K7, .string K8, .string K9]) (.int .i64 1)).run Tryd.prog W = .ok (.string K2) W := by rfl
theorem ix2 (W : World) : (Instr.index 64 (.agg #[.string K1, .string K2, .string K3, .string K4, .string K5, .string K6, .string K7, .string K8, .string K9]) (.int .i64 2)).run Tryd.prog W = .ok (.string K3) W := by rfl
theorem ix3 (W : World) : (Instr.index 64 (.agg #[.string K1, .string K2, .string K3, .string K4, .string K5, .string K6, .string K7, .string K8, .string K9]) (.int .i64 3)).run Tryd.prog W = .ok (.string K4) W := by rfl
theorem ix4 (W : World) : (Instr.index 64 (.agg #[.string K1, .string K2, .string K3, .string K4, .string K5, .string K6, .string K7, .string K8, .string K9]) (.int .i64 4)).run Tryd.prog W = .ok (.string K5) W := by rfl
theorem ix5 (W : World) : (Instr.index 64 (.agg #[.string K1, .string K2, .string K3, .string K4, .string K5, .string K6, .string K7, .string K8, .string K9]) (.int .i64 5)).run Tryd.prog W = .ok (.string K6) W := by rfl
theorem ix6 (W : World) : (Instr.index 64 (.agg #[.string K1, .string K2, .string K3, .string K4, .string K5, .string K6, .string K7, .string K8, .string K9]) (.int .i64 6)).run Tryd.prog W = .ok (.string K7) W := by rfl
theorem ix7 (W : World) : (Instr.index 64 (.agg #[.string K1, .string K2, .string K3, .string K4, .string K5, .string K6, .string K7, .string K8, .string K9]) (.int .i64 7)).run Tryd.prog W = .ok (.string K8) W := by rfl
theorem ix8 (W : World) : (Instr.index 64 (.agg #[.string K1, .string K2, .string K3, .string K4, .string K5, .string K6, .string K7, .string K8, .string K9]) (.int .i64 8)).run Tryd.prog W = .ok (.string K9) W := by rfl
theorem wordR_any (s : ByteArray) (w : World) : Calls Tryd.prog 54 #[.string s] w fun e w' => e = .returned (.int .i64 (word s)) ∧ w = w' := by
  go_enter Tryd.func54, Tryd.ntmps54
  go_wp2
  all_goals go_ret
  all_goals exact ⟨ret_int (by unfold word; simp [*]), rfl⟩
theorem word_any (s : ByteArray) (w : World) (hW : Words w) : Calls Tryd.prog 55 #[.string s] w fun e w' => e = .returned (.int .i64 (word s)) ∧ w = w' := by
  obtain ⟨c0, c1, c2, c3, c4, c5, c6, c7, c8⟩ := hW
  go_enter Tryd.func55, Tryd.ntmps55
  go_wp2
  clear c0 c1 c2 c3 c4 c5 c6 c7 c8
  go_loopw [6] (fun i wr => wr = w ∧ ∃ k : Nat, k ≤ 9 ∧ i = .int .i64 k ∧ Hid (∀ j, j < k → ∀ x, WW[j]? = some x → (s.toList == x) = false)) (fun i _ => 9 - (intOf i).toNat)
  case atStart => exact ⟨rfl, 0, by omega, rfl, fun j hj => by omega⟩
  case round =>
    obtain ⟨rfl, k, hk, rfl, hne⟩ := hrel
    by_cases hlt : k < 9
    · have c : k = 0 ∨ k = 1 ∨ k = 2 ∨ k = 3 ∨ k = 4 ∨ k = 5 ∨ k = 6 ∨ k = 7 ∨ k = 8 := by omega
      rcases c with rfl | rfl | rfl | rfl | rfl | rfl | rfl | rfl | rfl
      · cases hb : (K1.toList == s.toList)
        · have hb' : (s.toList == [97, 110, 121]) = false := by rw [kl1, BEq.comm] at hb; exact hb
          have HB := Lib.hid (show ∀ x, WW[0]? = some x → (s.toList == x) = false from fun x hx => by obtain rfl := Option.some.inj hx; exact hb')
          clear hb'
          have hix := ix0
          go_wp2
          go_roundw
          case rel => exact ⟨trivial, 1, by omega, by go_num, fun j hj => (Nat.lt_succ_iff_lt_or_eq.1 hj).elim (fun h => hne.out j h) (fun h => h ▸ HB.out)⟩
          case measure => simp [intOf]
        · have hb' : (s.toList == [97, 110, 121]) = true := by rw [kl1, BEq.comm] at hb; exact hb
          have HB := Lib.hid (word_is s 0 (by omega) hne.out (fun x hx => by obtain rfl := Option.some.inj hx; exact hb'))
          clear hb'
          have hix := ix0
          go_wp2
          go_ret
          exact ⟨ret_int HB.out.symm, rfl⟩
      · cases hb : (K2.toList == s.toList)
        · have hb' : (s.toList == [98, 111, 111, 108]) = false := by rw [kl2, BEq.comm] at hb; exact hb
          have HB := Lib.hid (show ∀ x, WW[1]? = some x → (s.toList == x) = false from fun x hx => by obtain rfl := Option.some.inj hx; exact hb')
          clear hb'
          have hix := ix1
          go_wp2
          go_roundw
          case rel => exact ⟨trivial, 2, by omega, by go_num, fun j hj => (Nat.lt_succ_iff_lt_or_eq.1 hj).elim (fun h => hne.out j h) (fun h => h ▸ HB.out)⟩
          case measure => simp [intOf]
        · have hb' : (s.toList == [98, 111, 111, 108]) = true := by rw [kl2, BEq.comm] at hb; exact hb
          have HB := Lib.hid (word_is s 1 (by omega) hne.out (fun x hx => by obtain rfl := Option.some.inj hx; exact hb'))
          clear hb'
          have hix := ix1
          go_wp2
          go_ret
          exact ⟨ret_int HB.out.symm, rfl⟩
      · cases hb : (K3.toList == s.toList)
        · have hb' : (s.toList == [99, 111, 109, 112, 117, 116, 101, 100]) = false := by rw [kl3, BEq.comm] at hb; exact hb
          have HB := Lib.hid (show ∀ x, WW[2]? = some x → (s.toList == x) = false from fun x hx => by obtain rfl := Option.some.inj hx; exact hb')
          clear hb'
          have hix := ix2
          go_wp2
          go_roundw
          case rel => exact ⟨trivial, 3, by omega, by go_num, fun j hj => (Nat.lt_succ_iff_lt_or_eq.1 hj).elim (fun h => hne.out j h) (fun h => h ▸ HB.out)⟩
          case measure => simp [intOf]
        · have hb' : (s.toList == [99, 111, 109, 112, 117, 116, 101, 100]) = true := by rw [kl3, BEq.comm] at hb; exact hb
          have HB := Lib.hid (word_is s 2 (by omega) hne.out (fun x hx => by obtain rfl := Option.some.inj hx; exact hb'))
          clear hb'
          have hix := ix2
          go_wp2
          go_ret
          exact ⟨ret_int HB.out.symm, rfl⟩
      · cases hb : (K4.toList == s.toList)
        · have hb' : (s.toList == [102, 97, 108, 115, 101]) = false := by rw [kl4, BEq.comm] at hb; exact hb
          have HB := Lib.hid (show ∀ x, WW[3]? = some x → (s.toList == x) = false from fun x hx => by obtain rfl := Option.some.inj hx; exact hb')
          clear hb'
          have hix := ix3
          go_wp2
          go_roundw
          case rel => exact ⟨trivial, 4, by omega, by go_num, fun j hj => (Nat.lt_succ_iff_lt_or_eq.1 hj).elim (fun h => hne.out j h) (fun h => h ▸ HB.out)⟩
          case measure => simp [intOf]
        · have hb' : (s.toList == [102, 97, 108, 115, 101]) = true := by rw [kl4, BEq.comm] at hb; exact hb
          have HB := Lib.hid (word_is s 3 (by omega) hne.out (fun x hx => by obtain rfl := Option.some.inj hx; exact hb'))
          clear hb'
          have hix := ix3
          go_wp2
          go_ret
          exact ⟨ret_int HB.out.symm, rfl⟩
      · cases hb : (K5.toList == s.toList)
        · have hb' : (s.toList == [105, 110, 116]) = false := by rw [kl5, BEq.comm] at hb; exact hb
          have HB := Lib.hid (show ∀ x, WW[4]? = some x → (s.toList == x) = false from fun x hx => by obtain rfl := Option.some.inj hx; exact hb')
          clear hb'
          have hix := ix4
          go_wp2
          go_roundw
          case rel => exact ⟨trivial, 5, by omega, by go_num, fun j hj => (Nat.lt_succ_iff_lt_or_eq.1 hj).elim (fun h => hne.out j h) (fun h => h ▸ HB.out)⟩
          case measure => simp [intOf]
        · have hb' : (s.toList == [105, 110, 116]) = true := by rw [kl5, BEq.comm] at hb; exact hb
          have HB := Lib.hid (word_is s 4 (by omega) hne.out (fun x hx => by obtain rfl := Option.some.inj hx; exact hb'))
          clear hb'
          have hix := ix4
          go_wp2
          go_ret
          exact ⟨ret_int HB.out.symm, rfl⟩
      · cases hb : (K6.toList == s.toList)
        · have hb' : (s.toList == [110, 111, 110, 101]) = false := by rw [kl6, BEq.comm] at hb; exact hb
          have HB := Lib.hid (show ∀ x, WW[5]? = some x → (s.toList == x) = false from fun x hx => by obtain rfl := Option.some.inj hx; exact hb')
          clear hb'
          have hix := ix5
          go_wp2
          go_roundw
          case rel => exact ⟨trivial, 6, by omega, by go_num, fun j hj => (Nat.lt_succ_iff_lt_or_eq.1 hj).elim (fun h => hne.out j h) (fun h => h ▸ HB.out)⟩
          case measure => simp [intOf]
        · have hb' : (s.toList == [110, 111, 110, 101]) = true := by rw [kl6, BEq.comm] at hb; exact hb
          have HB := Lib.hid (word_is s 5 (by omega) hne.out (fun x hx => by obtain rfl := Option.some.inj hx; exact hb'))
          clear hb'
          have hix := ix5
          go_wp2
          go_ret
          exact ⟨ret_int HB.out.symm, rfl⟩
      · cases hb : (K7.toList == s.toList)
        · have hb' : (s.toList == [114, 101, 115, 111, 117, 114, 99, 101]) = false := by rw [kl7, BEq.comm] at hb; exact hb
          have HB := Lib.hid (show ∀ x, WW[6]? = some x → (s.toList == x) = false from fun x hx => by obtain rfl := Option.some.inj hx; exact hb')
          clear hb'
          have hix := ix6
          go_wp2
          go_roundw
          case rel => exact ⟨trivial, 7, by omega, by go_num, fun j hj => (Nat.lt_succ_iff_lt_or_eq.1 hj).elim (fun h => hne.out j h) (fun h => h ▸ HB.out)⟩
          case measure => simp [intOf]
        · have hb' : (s.toList == [114, 101, 115, 111, 117, 114, 99, 101]) = true := by rw [kl7, BEq.comm] at hb; exact hb
          have HB := Lib.hid (word_is s 6 (by omega) hne.out (fun x hx => by obtain rfl := Option.some.inj hx; exact hb'))
          clear hb'
          have hix := ix6
          go_wp2
          go_ret
          exact ⟨ret_int HB.out.symm, rfl⟩
      · cases hb : (K8.toList == s.toList)
        · have hb' : (s.toList == [115, 116, 114, 105, 110, 103]) = false := by rw [kl8, BEq.comm] at hb; exact hb
          have HB := Lib.hid (show ∀ x, WW[7]? = some x → (s.toList == x) = false from fun x hx => by obtain rfl := Option.some.inj hx; exact hb')
          clear hb'
          have hix := ix7
          go_wp2
          go_roundw
          case rel => exact ⟨trivial, 8, by omega, by go_num, fun j hj => (Nat.lt_succ_iff_lt_or_eq.1 hj).elim (fun h => hne.out j h) (fun h => h ▸ HB.out)⟩
          case measure => simp [intOf]
        · have hb' : (s.toList == [115, 116, 114, 105, 110, 103]) = true := by rw [kl8, BEq.comm] at hb; exact hb
          have HB := Lib.hid (word_is s 7 (by omega) hne.out (fun x hx => by obtain rfl := Option.some.inj hx; exact hb'))
          clear hb'
          have hix := ix7
          go_wp2
          go_ret
          exact ⟨ret_int HB.out.symm, rfl⟩
      · cases hb : (K9.toList == s.toList)
        · have hb' : (s.toList == [116, 114, 117, 101]) = false := by rw [kl9, BEq.comm] at hb; exact hb
          have HB := Lib.hid (show ∀ x, WW[8]? = some x → (s.toList == x) = false from fun x hx => by obtain rfl := Option.some.inj hx; exact hb')
          clear hb'
          have hix := ix8
          go_wp2
          go_roundw
          case rel => exact ⟨trivial, 9, by omega, by go_num, fun j hj => (Nat.lt_succ_iff_lt_or_eq.1 hj).elim (fun h => hne.out j h) (fun h => h ▸ HB.out)⟩
          case measure => simp [intOf]
        · have hb' : (s.toList == [116, 114, 117, 101]) = true := by rw [kl9, BEq.comm] at hb; exact hb
          have HB := Lib.hid (word_is s 8 (by omega) hne.out (fun x hx => by obtain rfl := Option.some.inj hx; exact hb'))
          clear hb'
          have hix := ix8
          go_wp2
          go_ret
          exact ⟨ret_int HB.out.symm, rfl⟩
    · obtain rfl : k = 9 := by omega
      have HB := Lib.hid (word_none s hne.out)
      go_wp2
      go_ret
      exact ⟨ret_int HB.out.symm, rfl⟩
theorem small_any (c : Int) (w : World) : Calls Tryd.prog 56 #[.int .i32 c] w fun e w' => e = .returned (.bool (decide (97 ≤ c) && decide (c ≤ 122))) ∧ w = w' := by
  by_cases h1 : 97 ≤ c
  · go_enter Tryd.func56, Tryd.ntmps56
    go_wp2
    go_ret
    exact ⟨ret_bool (by simp [h1]), rfl⟩
  · have h2 : c < 97 := by omega
    clear h1
    go_enter Tryd.func56, Tryd.ntmps56
    go_wp2
    go_ret
    exact ⟨ret_bool (by simp; omega), rfl⟩
end Go.Proofs.YtigdibglkejciaaDoor.Ex
