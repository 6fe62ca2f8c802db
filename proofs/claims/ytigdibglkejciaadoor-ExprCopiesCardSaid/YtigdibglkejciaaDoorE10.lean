/-
  The reference's empty: an expression that is bare.
-/
import Derived.Test.YtigdibglkejciaaDoorE9
namespace Go.Proofs.YtigdibglkejciaaDoor.Ex
open Go.RowKit Go
set_option linter.unusedSimpArgs false

set_option maxHeartbeats 4000000 in
theorem empty_0 (v : V7) (w : World) : Calls Tryd.prog 37 #[.agg #[.int .i64 v.op, .int .i64 v.num, .string v.tx, .slice v.pa v.pl v.pc, .slice v.qa v.ql v.qc, .bool v.opn, .slice v.ka v.kl v.kc], .int .i64 1] w fun e w' => e = .returned (.bool (bareV v true false false false false)) ∧ Below w.heap.size w w' := by
  cases h1 : (v.tx.toList == [])
  · have hR : Hid (bareV v true false false false false = false) := Lib.hid (by simp [bareV, *])
    go_enter Tryd.func37, Tryd.ntmps37
    go_wp2
    go_ret
    exact ⟨ret_bool hR.out.symm, bel1 w _⟩
  · cases h2 : ((v.pl : Int) == 0)
    · have hR : Hid (bareV v true false false false false = false) := Lib.hid (by simp [bareV, *])
      have n2 : (0 : Int) < (v.pl : Int) := by simp at h2; omega
      go_enter Tryd.func37, Tryd.ntmps37
      go_wp2
      go_ret
      exact ⟨ret_bool hR.out.symm, bel1 w _⟩
    · have hh2 := h2
      have n2 : ¬ ((0 : Int) < (v.pl : Int)) := by simp at h2; omega
      cases h3 : ((v.ql : Int) == 0)
      · have hR : Hid (bareV v true false false false false = false) := Lib.hid (by simp [bareV, *])
        go_enter Tryd.func37, Tryd.ntmps37
        go_wp2
        go_ret
        exact ⟨ret_bool hR.out.symm, bel1 w _⟩
      · cases h4 : v.opn
        · cases h5 : ((v.kl : Int) == 0)
          · have hR : Hid (bareV v true false false false false = false) := Lib.hid (by simp [bareV, *])
            go_enter Tryd.func37, Tryd.ntmps37
            go_wp2
            go_ret
            exact ⟨ret_bool hR.out.symm, bel1 w _⟩
          · have hR : Hid (bareV v true false false false false = true) := Lib.hid (by simp [bareV, *])
            go_enter Tryd.func37, Tryd.ntmps37
            go_wp2
            go_ret
            exact ⟨ret_bool hR.out.symm, bel1 w _⟩
        · have hR : Hid (bareV v true false false false false = false) := Lib.hid (by simp [bareV, *])
          go_enter Tryd.func37, Tryd.ntmps37
          go_wp2
          go_ret
          exact ⟨ret_bool hR.out.symm, bel1 w _⟩
set_option maxHeartbeats 4000000 in
theorem empty_1 (v : V7) (w : World) : Calls Tryd.prog 37 #[.agg #[.int .i64 v.op, .int .i64 v.num, .string v.tx, .slice v.pa v.pl v.pc, .slice v.qa v.ql v.qc, .bool v.opn, .slice v.ka v.kl v.kc], .int .i64 2] w fun e w' => e = .returned (.bool (bareV v false true false false false)) ∧ Below w.heap.size w w' := by
  cases h0 : (v.num == 0)
  · have hR : Hid (bareV v false true false false false = false) := Lib.hid (by simp [bareV, *])
    have n0 : (v.num != 0) = true := by simp [bne, h0]
    go_enter Tryd.func37, Tryd.ntmps37
    go_wp2
    go_ret
    exact ⟨ret_bool hR.out.symm, bel1 w _⟩
  · have hh0 := h0
    have n0 : (v.num != 0) = false := by simp [bne, h0]
    cases h2 : ((v.pl : Int) == 0)
    · have hR : Hid (bareV v false true false false false = false) := Lib.hid (by simp [bareV, *])
      have n2 : (0 : Int) < (v.pl : Int) := by simp at h2; omega
      go_enter Tryd.func37, Tryd.ntmps37
      go_wp2
      go_ret
      exact ⟨ret_bool hR.out.symm, bel1 w _⟩
    · have hh2 := h2
      have n2 : ¬ ((0 : Int) < (v.pl : Int)) := by simp at h2; omega
      cases h3 : ((v.ql : Int) == 0)
      · have hR : Hid (bareV v false true false false false = false) := Lib.hid (by simp [bareV, *])
        go_enter Tryd.func37, Tryd.ntmps37
        go_wp2
        go_ret
        exact ⟨ret_bool hR.out.symm, bel1 w _⟩
      · cases h4 : v.opn
        · cases h5 : ((v.kl : Int) == 0)
          · have hR : Hid (bareV v false true false false false = false) := Lib.hid (by simp [bareV, *])
            go_enter Tryd.func37, Tryd.ntmps37
            go_wp2
            go_ret
            exact ⟨ret_bool hR.out.symm, bel1 w _⟩
          · have hR : Hid (bareV v false true false false false = true) := Lib.hid (by simp [bareV, *])
            go_enter Tryd.func37, Tryd.ntmps37
            go_wp2
            go_ret
            exact ⟨ret_bool hR.out.symm, bel1 w _⟩
        · have hR : Hid (bareV v false true false false false = false) := Lib.hid (by simp [bareV, *])
          go_enter Tryd.func37, Tryd.ntmps37
          go_wp2
          go_ret
          exact ⟨ret_bool hR.out.symm, bel1 w _⟩
set_option maxHeartbeats 4000000 in
theorem empty_2 (v : V7) (w : World) : Calls Tryd.prog 37 #[.agg #[.int .i64 v.op, .int .i64 v.num, .string v.tx, .slice v.pa v.pl v.pc, .slice v.qa v.ql v.qc, .bool v.opn, .slice v.ka v.kl v.kc], .int .i64 4] w fun e w' => e = .returned (.bool (bareV v false false true false false)) ∧ Below w.heap.size w w' := by
  cases h0 : (v.num == 0)
  · have hR : Hid (bareV v false false true false false = false) := Lib.hid (by simp [bareV, *])
    have n0 : (v.num != 0) = true := by simp [bne, h0]
    go_enter Tryd.func37, Tryd.ntmps37
    go_wp2
    go_ret
    exact ⟨ret_bool hR.out.symm, bel1 w _⟩
  · have hh0 := h0
    have n0 : (v.num != 0) = false := by simp [bne, h0]
    cases h1 : (v.tx.toList == [])
    · have hR : Hid (bareV v false false true false false = false) := Lib.hid (by simp [bareV, *])
      go_enter Tryd.func37, Tryd.ntmps37
      go_wp2
      go_ret
      exact ⟨ret_bool hR.out.symm, bel1 w _⟩
    · cases h3 : ((v.ql : Int) == 0)
      · have hR : Hid (bareV v false false true false false = false) := Lib.hid (by simp [bareV, *])
        go_enter Tryd.func37, Tryd.ntmps37
        go_wp2
        go_ret
        exact ⟨ret_bool hR.out.symm, bel1 w _⟩
      · cases h4 : v.opn
        · cases h5 : ((v.kl : Int) == 0)
          · have hR : Hid (bareV v false false true false false = false) := Lib.hid (by simp [bareV, *])
            go_enter Tryd.func37, Tryd.ntmps37
            go_wp2
            go_ret
            exact ⟨ret_bool hR.out.symm, bel1 w _⟩
          · have hR : Hid (bareV v false false true false false = true) := Lib.hid (by simp [bareV, *])
            go_enter Tryd.func37, Tryd.ntmps37
            go_wp2
            go_ret
            exact ⟨ret_bool hR.out.symm, bel1 w _⟩
        · have hR : Hid (bareV v false false true false false = false) := Lib.hid (by simp [bareV, *])
          go_enter Tryd.func37, Tryd.ntmps37
          go_wp2
          go_ret
          exact ⟨ret_bool hR.out.symm, bel1 w _⟩
set_option maxHeartbeats 4000000 in
theorem empty_3 (v : V7) (w : World) : Calls Tryd.prog 37 #[.agg #[.int .i64 v.op, .int .i64 v.num, .string v.tx, .slice v.pa v.pl v.pc, .slice v.qa v.ql v.qc, .bool v.opn, .slice v.ka v.kl v.kc], .int .i64 8] w fun e w' => e = .returned (.bool (bareV v false false false true false)) ∧ Below w.heap.size w w' := by
  cases h0 : (v.num == 0)
  · have hR : Hid (bareV v false false false true false = false) := Lib.hid (by simp [bareV, *])
    have n0 : (v.num != 0) = true := by simp [bne, h0]
    go_enter Tryd.func37, Tryd.ntmps37
    go_wp2
    go_ret
    exact ⟨ret_bool hR.out.symm, bel1 w _⟩
  · have hh0 := h0
    have n0 : (v.num != 0) = false := by simp [bne, h0]
    cases h1 : (v.tx.toList == [])
    · have hR : Hid (bareV v false false false true false = false) := Lib.hid (by simp [bareV, *])
      go_enter Tryd.func37, Tryd.ntmps37
      go_wp2
      go_ret
      exact ⟨ret_bool hR.out.symm, bel1 w _⟩
    · cases h2 : ((v.pl : Int) == 0)
      · have hR : Hid (bareV v false false false true false = false) := Lib.hid (by simp [bareV, *])
        have n2 : (0 : Int) < (v.pl : Int) := by simp at h2; omega
        go_enter Tryd.func37, Tryd.ntmps37
        go_wp2
        go_ret
        exact ⟨ret_bool hR.out.symm, bel1 w _⟩
      · have hh2 := h2
        have n2 : ¬ ((0 : Int) < (v.pl : Int)) := by simp at h2; omega
        cases h5 : ((v.kl : Int) == 0)
        · have hR : Hid (bareV v false false false true false = false) := Lib.hid (by simp [bareV, *])
          go_enter Tryd.func37, Tryd.ntmps37
          go_wp2
          go_ret
          exact ⟨ret_bool hR.out.symm, bel1 w _⟩
        · have hR : Hid (bareV v false false false true false = true) := Lib.hid (by simp [bareV, *])
          go_enter Tryd.func37, Tryd.ntmps37
          go_wp2
          go_ret
          exact ⟨ret_bool hR.out.symm, bel1 w _⟩
set_option maxHeartbeats 4000000 in
theorem empty_4 (v : V7) (w : World) : Calls Tryd.prog 37 #[.agg #[.int .i64 v.op, .int .i64 v.num, .string v.tx, .slice v.pa v.pl v.pc, .slice v.qa v.ql v.qc, .bool v.opn, .slice v.ka v.kl v.kc], .int .i64 16] w fun e w' => e = .returned (.bool (bareV v false false false false true)) ∧ Below w.heap.size w w' := by
  cases h0 : (v.num == 0)
  · have hR : Hid (bareV v false false false false true = false) := Lib.hid (by simp [bareV, *])
    have n0 : (v.num != 0) = true := by simp [bne, h0]
    go_enter Tryd.func37, Tryd.ntmps37
    go_wp2
    go_ret
    exact ⟨ret_bool hR.out.symm, bel1 w _⟩
  · have hh0 := h0
    have n0 : (v.num != 0) = false := by simp [bne, h0]
    cases h1 : (v.tx.toList == [])
    · have hR : Hid (bareV v false false false false true = false) := Lib.hid (by simp [bareV, *])
      go_enter Tryd.func37, Tryd.ntmps37
      go_wp2
      go_ret
      exact ⟨ret_bool hR.out.symm, bel1 w _⟩
    · cases h2 : ((v.pl : Int) == 0)
      · have hR : Hid (bareV v false false false false true = false) := Lib.hid (by simp [bareV, *])
        have n2 : (0 : Int) < (v.pl : Int) := by simp at h2; omega
        go_enter Tryd.func37, Tryd.ntmps37
        go_wp2
        go_ret
        exact ⟨ret_bool hR.out.symm, bel1 w _⟩
      · have hh2 := h2
        have n2 : ¬ ((0 : Int) < (v.pl : Int)) := by simp at h2; omega
        cases h3 : ((v.ql : Int) == 0)
        · have hR : Hid (bareV v false false false false true = false) := Lib.hid (by simp [bareV, *])
          go_enter Tryd.func37, Tryd.ntmps37
          go_wp2
          go_ret
          exact ⟨ret_bool hR.out.symm, bel1 w _⟩
        · cases h4 : v.opn
          · have hR : Hid (bareV v false false false false true = true) := Lib.hid (by simp [bareV, *])
            go_enter Tryd.func37, Tryd.ntmps37
            go_wp2
            go_ret
            exact ⟨ret_bool hR.out.symm, bel1 w _⟩
          · have hR : Hid (bareV v false false false false true = false) := Lib.hid (by simp [bareV, *])
            go_enter Tryd.func37, Tryd.ntmps37
            go_wp2
            go_ret
            exact ⟨ret_bool hR.out.symm, bel1 w _⟩
set_option maxHeartbeats 4000000 in
theorem empty_5 (v : V7) (w : World) : Calls Tryd.prog 37 #[.agg #[.int .i64 v.op, .int .i64 v.num, .string v.tx, .slice v.pa v.pl v.pc, .slice v.qa v.ql v.qc, .bool v.opn, .slice v.ka v.kl v.kc], .int .i64 0] w fun e w' => e = .returned (.bool (bareV v false false false false false)) ∧ Below w.heap.size w w' := by
  cases h0 : (v.num == 0)
  · have hR : Hid (bareV v false false false false false = false) := Lib.hid (by simp [bareV, *])
    have n0 : (v.num != 0) = true := by simp [bne, h0]
    go_enter Tryd.func37, Tryd.ntmps37
    go_wp2
    go_ret
    exact ⟨ret_bool hR.out.symm, bel1 w _⟩
  · have hh0 := h0
    have n0 : (v.num != 0) = false := by simp [bne, h0]
    cases h1 : (v.tx.toList == [])
    · have hR : Hid (bareV v false false false false false = false) := Lib.hid (by simp [bareV, *])
      go_enter Tryd.func37, Tryd.ntmps37
      go_wp2
      go_ret
      exact ⟨ret_bool hR.out.symm, bel1 w _⟩
    · cases h2 : ((v.pl : Int) == 0)
      · have hR : Hid (bareV v false false false false false = false) := Lib.hid (by simp [bareV, *])
        have n2 : (0 : Int) < (v.pl : Int) := by simp at h2; omega
        go_enter Tryd.func37, Tryd.ntmps37
        go_wp2
        go_ret
        exact ⟨ret_bool hR.out.symm, bel1 w _⟩
      · have hh2 := h2
        have n2 : ¬ ((0 : Int) < (v.pl : Int)) := by simp at h2; omega
        cases h3 : ((v.ql : Int) == 0)
        · have hR : Hid (bareV v false false false false false = false) := Lib.hid (by simp [bareV, *])
          go_enter Tryd.func37, Tryd.ntmps37
          go_wp2
          go_ret
          exact ⟨ret_bool hR.out.symm, bel1 w _⟩
        · cases h4 : v.opn
          · cases h5 : ((v.kl : Int) == 0)
            · have hR : Hid (bareV v false false false false false = false) := Lib.hid (by simp [bareV, *])
              go_enter Tryd.func37, Tryd.ntmps37
              go_wp2
              go_ret
              exact ⟨ret_bool hR.out.symm, bel1 w _⟩
            · have hR : Hid (bareV v false false false false false = true) := Lib.hid (by simp [bareV, *])
              go_enter Tryd.func37, Tryd.ntmps37
              go_wp2
              go_ret
              exact ⟨ret_bool hR.out.symm, bel1 w _⟩
          · have hR : Hid (bareV v false false false false false = false) := Lib.hid (by simp [bareV, *])
            go_enter Tryd.func37, Tryd.ntmps37
            go_wp2
            go_ret
            exact ⟨ret_bool hR.out.symm, bel1 w _⟩
end Go.Proofs.YtigdibglkejciaaDoor.Ex
