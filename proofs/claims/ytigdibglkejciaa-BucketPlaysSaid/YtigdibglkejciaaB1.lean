/-
  The contracts of the functions that BucketSlots reaches: the FNV number of a text, its bucket, the making of an index.
-/
import Derived.Test.YtigdibglkejciaaProg
import Derived.WalkKit
import Derived.OwnWalk
import Derived.Below
import Derived.LoopTactic
import Derived.KernelRfl
import Derived.Outline
import Derived.Lib.Hide
import Derived.Deep.QuietTactic
import Derived.BigQuiet
namespace Go.Proofs.Ytigdibglkejciaa.Buck
open Go.RowKit

/-- One byte more. -/
def fnvStep (x : Int) (b : UInt8) : Int := IntKind.u64.wrap ((Go.bits .xor .u64 x (IntKind.u64.wrap (b.toNat : Int))) * 1099511628211)
/-- The number of the first bytes. -/
def fnv (x : Int) (l : List UInt8) : Int := l.foldl fnvStep x

theorem take_snoc (s : ByteArray) (k : Nat) (h : k < s.size) : s.data.toList.take (k + 1) = s.data.toList.take k ++ [s[k]] := by
  rw [List.take_succ_eq_append_getElem (by simpa using h)]; rfl
theorem fnv_snoc (x : Int) (l : List UInt8) (b : UInt8) : fnv x (l ++ [b]) = fnvStep (fnv x l) b := by
  unfold fnv; rw [List.foldl_append]; rfl
theorem fnv_take (x : Int) (s : ByteArray) (k : Nat) (h : k < s.size) : fnv x (s.data.toList.take (k + 1)) = fnvStep (fnv x (s.data.toList.take k)) s[k] := by
  rw [take_snoc s k h, fnv_snoc]
theorem fnv_all (x : Int) (s : ByteArray) (k : Nat) (h : s.size ≤ k) : fnv x (s.data.toList.take k) = fnv x s.data.toList := by
  rw [List.take_of_length_le (by simpa using h)]
theorem ret_int {k : IntKind} {a b : Int} (h : a = b) : Ending.returned (.int k a) = .returned (.int k b) := by rw [h]

theorem of_any (s : ByteArray) (w : World) (hs : s.size ≤ maxLen) :
    Calls Try.prog 14 #[.string s] w fun e w' => e = .returned (.int .u64 (fnv 14695981039346656037 s.data.toList)) ∧ w = w' := by
  unfold maxLen at hs
  go_enter Try.func14, Try.ntmps14
  go_wp2
  go_loop [3, 7] (fun x i => ∃ k : Nat, k ≤ s.size ∧ i = .int .i64 k ∧ x = .int .u64 (fnv 14695981039346656037 (s.data.toList.take k))) (fun _ i => s.size - (intOf i).toNat)
  case atStart => exact ⟨0, Nat.zero_le _, rfl, rfl⟩
  case round =>
    obtain ⟨k, hk, rfl, rfl⟩ := hrel
    by_cases hlt : k < s.size
    · have HS := Lib.hid (fnv_take 14695981039346656037 s k hlt)
      go_wp2
      go_round
      case rel => exact ⟨k + 1, by omega, by go_num, by rw [HS.out]; rfl⟩
      case measure => simp [intOf]; omega
    · have HS := Lib.hid (fnv_all 14695981039346656037 s k (by omega))
      go_wp2
      go_ret
      exact ⟨ret_int HS.out, rfl⟩

theorem ofRef_any (s : ByteArray) (w : World) (hs : s.size ≤ maxLen) :
    Calls Try.prog 15 #[.string s] w fun e w' => e = .returned (.int .u64 (fnv 14695981039346656037 s.data.toList)) ∧ w = w' := by
  unfold maxLen at hs
  go_enter Try.func15, Try.ntmps15
  go_wp2
  go_loop [3, 4] (fun x i => ∃ k : Nat, k ≤ s.size ∧ i = .int .i64 k ∧ x = .int .u64 (fnv 14695981039346656037 (s.data.toList.take k))) (fun _ i => s.size - (intOf i).toNat)
  case atStart => exact ⟨0, Nat.zero_le _, rfl, rfl⟩
  case round =>
    obtain ⟨k, hk, rfl, rfl⟩ := hrel
    by_cases hlt : k < s.size
    · have HS := Lib.hid (fnv_take 14695981039346656037 s k hlt)
      go_wp2
      go_round
      case rel => exact ⟨k + 1, by omega, by go_num, by rw [HS.out]; rfl⟩
      case measure => simp [intOf]; omega
    · have HS := Lib.hid (fnv_all 14695981039346656037 s k (by omega))
      go_wp2
      go_ret
      exact ⟨ret_int HS.out, rfl⟩

/-- The bucket of a text. -/
def slot (s : ByteArray) (n : Int) : Int := if 1 ≤ n ∧ n ≤ 1024 then wrap64 ((fnv 14695981039346656037 s.data.toList).tmod n) else 0
theorem slot_in (s : ByteArray) (n : Int) (h1 : 1 ≤ n) (h2 : n ≤ 1024) : slot s n = wrap64 ((fnv 14695981039346656037 s.data.toList).tmod n) := by unfold slot; rw [if_pos ⟨h1, h2⟩]
theorem slot_out (s : ByteArray) (n : Int) (h : ¬ (1 ≤ n ∧ n ≤ 1024)) : slot s n = 0 := by unfold slot; rw [if_neg h]

theorem may_any (n : Int) (w : World) :
    Calls Try.prog 60 #[.int .i64 n] w fun e w' => e = .returned (.bool (decide (1 ≤ n ∧ n ≤ 1024))) ∧ w = w' := by
  by_cases h1 : 1 ≤ n
  · by_cases h2 : n ≤ 1024
    · go_enter Try.func60, Try.ntmps60
      go_wp2
      go_ret
      exact ⟨by simp [h1, h2], rfl⟩
    · go_enter Try.func60, Try.ntmps60
      go_wp2
      go_ret
      exact ⟨by simp [h2], rfl⟩
  · go_enter Try.func60, Try.ntmps60
    go_wp2
    go_ret
    exact ⟨by simp; omega, rfl⟩

theorem slot_any (s : ByteArray) (n : Int) (w : World) (hs : s.size ≤ maxLen) :
    Calls Try.prog 16 #[.string s, .int .i64 n] w fun e w' => e = .returned (.int .i64 (slot s n)) ∧ w = w' := by
  by_cases h : 1 ≤ n ∧ n ≤ 1024
  · have HS := Lib.hid (slot_in s n h.1 h.2)
    have hd : decide (1 ≤ n ∧ n ≤ 1024) = true := by simpa using h
    have h1 := h.1
    have h2 := h.2
    clear h
    go_enter Try.func16, Try.ntmps16
    go_wp2_with (first | (go_at_call 60; refine (may_any _ _).mono ?_; rintro e w' ⟨rfl, rfl⟩) | (go_at_call 14; refine (of_any _ _ hs).mono ?_; rintro e w' ⟨rfl, rfl⟩))
    go_ret
    exact ⟨ret_int HS.out.symm, rfl⟩
  · have HS := Lib.hid (slot_out s n h)
    have hd : decide (1 ≤ n ∧ n ≤ 1024) = false := by simpa using h
    go_enter Try.func16, Try.ntmps16
    go_wp2_with (first | (go_at_call 60; refine (may_any _ _).mono ?_; rintro e w' ⟨rfl, rfl⟩) | (go_at_call 14; refine (of_any _ _ hs).mono ?_; rintro e w' ⟨rfl, rfl⟩))
    go_ret
    exact ⟨ret_int HS.out.symm, rfl⟩

theorem slotRef_any (s : ByteArray) (n : Int) (w : World) (hs : s.size ≤ maxLen) :
    Calls Try.prog 17 #[.string s, .int .i64 n] w fun e w' => e = .returned (.int .i64 (slot s n)) ∧ w = w' := by
  by_cases h : 1 ≤ n ∧ n ≤ 1024
  · have HS := Lib.hid (slot_in s n h.1 h.2)
    have h1 := h.1
    have h2 := h.2
    clear h
    go_enter Try.func17, Try.ntmps17
    go_wp2_with (go_at_call 15; refine (ofRef_any _ _ hs).mono ?_; rintro e w' ⟨rfl, rfl⟩)
    go_ret
    exact ⟨ret_int HS.out.symm, rfl⟩
  · have HS := Lib.hid (slot_out s n h)
    by_cases h1 : n < 1
    · go_enter Try.func17, Try.ntmps17
      go_wp2_with (go_at_call 15; refine (ofRef_any _ _ hs).mono ?_; rintro e w' ⟨rfl, rfl⟩)
      go_ret
      exact ⟨ret_int HS.out.symm, rfl⟩
    · have h2 : 1024 < n := by omega
      clear h
      go_enter Try.func17, Try.ntmps17
      go_wp2_with (go_at_call 15; refine (ofRef_any _ _ hs).mono ?_; rintro e w' ⟨rfl, rfl⟩)
      go_ret
      exact ⟨ret_int HS.out.symm, rfl⟩

theorem awake_any (w : World) : Calls Try.prog 12 #[] w fun e w' => e = .returned (.bool true) ∧ w = w' := by
  have e1 : (fnv 14695981039346656037 (ByteArray.mk #[]).data.toList == 14695981039346656037) = true := by decide +kernel
  have e2 : (fnv 14695981039346656037 (ByteArray.mk #[97]).data.toList == 12638187200555641996) = true := by decide +kernel
  go_enter Try.func12, Try.ntmps12
  go_wp2_with (go_at_call 14; refine (of_any _ _ (by decide)).mono ?_; rintro e w' ⟨rfl, rfl⟩)
  go_ret
  exact ⟨rfl, rfl⟩

theorem new_in (n : Int) (w : World) (h1 : 1 ≤ n) (h2 : n ≤ 1024) :
    Calls Try.prog 13 #[.int .i64 n] w fun e w' => e = .returned (.tuple #[.pointer (some ⟨w.heap.size + 1, 0, none⟩), .int .i64 0]) ∧ w' = (w.alloc (.map #[] 0)).alloc (.cells #[.int .i64 n, .map (some w.heap.size), .int .i64 0] 77) := by
  have hd : decide (1 ≤ n ∧ n ≤ 1024) = true := by simpa using ⟨h1, h2⟩
  have hmm := @run_makeMap Try.prog
  go_enter Try.func13, Try.ntmps13
  go_wp2_with (go_at_call 60; refine (may_any _ _).mono ?_; rintro e w' ⟨rfl, rfl⟩)
  go_ret2
  exact ⟨rfl, rfl⟩

theorem new_out (n : Int) (w : World) (h : ¬ (1 ≤ n ∧ n ≤ 1024)) :
    Calls Try.prog 13 #[.int .i64 n] w fun e w' => e = .returned (.tuple #[.pointer none, .int .i64 1]) ∧ w = w' := by
  have hd : decide (1 ≤ n ∧ n ≤ 1024) = false := by simpa using h
  go_enter Try.func13, Try.ntmps13
  go_wp2_with (go_at_call 60; refine (may_any _ _).mono ?_; rintro e w' ⟨rfl, rfl⟩)
  go_ret2
  exact ⟨rfl, rfl⟩
end Go.Proofs.Ytigdibglkejciaa.Buck
