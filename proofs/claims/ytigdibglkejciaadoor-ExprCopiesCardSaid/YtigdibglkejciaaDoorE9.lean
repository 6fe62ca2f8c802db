/-
  Numbers of the language; an expression that is bare.
-/
import Derived.Test.YtigdibglkejciaaDoorE8
namespace Go.Proofs.YtigdibglkejciaaDoor.Ex
open Go.RowKit Go
set_option linter.unusedSimpArgs false

def numIn (x : Int) : Bool := decide (-9007199254740992 ≤ x) && decide (x ≤ 9007199254740992)
theorem in_any (x : Int) (w : World) : Calls Tryd.prog 47 #[.int .i64 x] w fun e w' => e = .returned (.bool (numIn x)) ∧ w = w' := by
  by_cases h1 : -9007199254740992 ≤ x
  · go_enter Tryd.func47, Tryd.ntmps47
    go_wp2
    go_ret
    exact ⟨ret_bool (by simp [numIn, h1]), rfl⟩
  · have h2 : x < -9007199254740992 := by omega
    clear h1
    go_enter Tryd.func47, Tryd.ntmps47
    go_wp2
    go_ret
    exact ⟨ret_bool (by simp [numIn]; omega), rfl⟩
theorem inR_any (x : Int) (w : World) : Calls Tryd.prog 38 #[.int .i64 x] w fun e w' => e = .returned (.bool (numIn x)) ∧ w = w' := by
  by_cases h1 : -9007199254740992 ≤ x
  · go_enter Tryd.func38, Tryd.ntmps38
    go_wp2
    go_ret
    exact ⟨ret_bool (by simp [numIn, h1]), rfl⟩
  · have h2 : x < -9007199254740992 := by omega
    clear h1
    go_enter Tryd.func38, Tryd.ntmps38
    go_wp2
    go_ret
    exact ⟨ret_bool (by simp [numIn]; omega), rfl⟩
/-- Nothing but what is told. -/
def bareV (v : V7) (a b c d e : Bool) : Bool := (a || v.num == 0) && (b || v.tx.toList == []) && (c || (v.pl : Int) == 0) && (d || ((v.ql : Int) == 0 && !v.opn)) && (e || (v.kl : Int) == 0)
set_option maxHeartbeats 4000000 in
theorem bare_0 (v : V7) (w : World) : Calls Tryd.prog 46 #[.agg #[.int .i64 v.op, .int .i64 v.num, .string v.tx, .slice v.pa v.pl v.pc, .slice v.qa v.ql v.qc, .bool v.opn, .slice v.ka v.kl v.kc], .bool true, .bool false, .bool false, .bool false, .bool false] w fun e w' => e = .returned (.bool (bareV v true false false false false)) ∧ Below w.heap.size w w' := by
  cases h1 : (v.tx.toList == [])
  · have hR : Hid (bareV v true false false false false = false) := Lib.hid (by simp [bareV, *])
    go_enter Tryd.func46, Tryd.ntmps46
    go_wp2
    go_ret
    exact ⟨ret_bool hR.out.symm, bel1 w _⟩
  · cases h2 : ((v.pl : Int) == 0)
    · have hR : Hid (bareV v true false false false false = false) := Lib.hid (by simp [bareV, *])
      go_enter Tryd.func46, Tryd.ntmps46
      go_wp2
      go_ret
      exact ⟨ret_bool hR.out.symm, bel1 w _⟩
    · cases h3 : ((v.ql : Int) == 0)
      · have hR : Hid (bareV v true false false false false = false) := Lib.hid (by simp [bareV, *])
        go_enter Tryd.func46, Tryd.ntmps46
        go_wp2
        go_ret
        exact ⟨ret_bool hR.out.symm, bel1 w _⟩
      · cases h4 : v.opn
        · cases h5 : ((v.kl : Int) == 0)
          · have hR : Hid (bareV v true false false false false = false) := Lib.hid (by simp [bareV, *])
            go_enter Tryd.func46, Tryd.ntmps46
            go_wp2
            go_ret
            exact ⟨ret_bool hR.out.symm, bel1 w _⟩
          · have hR : Hid (bareV v true false false false false = true) := Lib.hid (by simp [bareV, *])
            go_enter Tryd.func46, Tryd.ntmps46
            go_wp2
            go_ret
            exact ⟨ret_bool hR.out.symm, bel1 w _⟩
        · have hR : Hid (bareV v true false false false false = false) := Lib.hid (by simp [bareV, *])
          go_enter Tryd.func46, Tryd.ntmps46
          go_wp2
          go_ret
          exact ⟨ret_bool hR.out.symm, bel1 w _⟩
set_option maxHeartbeats 4000000 in
theorem bare_1 (v : V7) (w : World) : Calls Tryd.prog 46 #[.agg #[.int .i64 v.op, .int .i64 v.num, .string v.tx, .slice v.pa v.pl v.pc, .slice v.qa v.ql v.qc, .bool v.opn, .slice v.ka v.kl v.kc], .bool false, .bool true, .bool false, .bool false, .bool false] w fun e w' => e = .returned (.bool (bareV v false true false false false)) ∧ Below w.heap.size w w' := by
  cases h0 : (v.num == 0)
  · have hR : Hid (bareV v false true false false false = false) := Lib.hid (by simp [bareV, *])
    go_enter Tryd.func46, Tryd.ntmps46
    go_wp2
    go_ret
    exact ⟨ret_bool hR.out.symm, bel1 w _⟩
  · cases h2 : ((v.pl : Int) == 0)
    · have hR : Hid (bareV v false true false false false = false) := Lib.hid (by simp [bareV, *])
      go_enter Tryd.func46, Tryd.ntmps46
      go_wp2
      go_ret
      exact ⟨ret_bool hR.out.symm, bel1 w _⟩
    · cases h3 : ((v.ql : Int) == 0)
      · have hR : Hid (bareV v false true false false false = false) := Lib.hid (by simp [bareV, *])
        go_enter Tryd.func46, Tryd.ntmps46
        go_wp2
        go_ret
        exact ⟨ret_bool hR.out.symm, bel1 w _⟩
      · cases h4 : v.opn
        · cases h5 : ((v.kl : Int) == 0)
          · have hR : Hid (bareV v false true false false false = false) := Lib.hid (by simp [bareV, *])
            go_enter Tryd.func46, Tryd.ntmps46
            go_wp2
            go_ret
            exact ⟨ret_bool hR.out.symm, bel1 w _⟩
          · have hR : Hid (bareV v false true false false false = true) := Lib.hid (by simp [bareV, *])
            go_enter Tryd.func46, Tryd.ntmps46
            go_wp2
            go_ret
            exact ⟨ret_bool hR.out.symm, bel1 w _⟩
        · have hR : Hid (bareV v false true false false false = false) := Lib.hid (by simp [bareV, *])
          go_enter Tryd.func46, Tryd.ntmps46
          go_wp2
          go_ret
          exact ⟨ret_bool hR.out.symm, bel1 w _⟩
set_option maxHeartbeats 4000000 in
theorem bare_2 (v : V7) (w : World) : Calls Tryd.prog 46 #[.agg #[.int .i64 v.op, .int .i64 v.num, .string v.tx, .slice v.pa v.pl v.pc, .slice v.qa v.ql v.qc, .bool v.opn, .slice v.ka v.kl v.kc], .bool false, .bool false, .bool true, .bool false, .bool false] w fun e w' => e = .returned (.bool (bareV v false false true false false)) ∧ Below w.heap.size w w' := by
  cases h0 : (v.num == 0)
  · have hR : Hid (bareV v false false true false false = false) := Lib.hid (by simp [bareV, *])
    go_enter Tryd.func46, Tryd.ntmps46
    go_wp2
    go_ret
    exact ⟨ret_bool hR.out.symm, bel1 w _⟩
  · cases h1 : (v.tx.toList == [])
    · have hR : Hid (bareV v false false true false false = false) := Lib.hid (by simp [bareV, *])
      go_enter Tryd.func46, Tryd.ntmps46
      go_wp2
      go_ret
      exact ⟨ret_bool hR.out.symm, bel1 w _⟩
    · cases h3 : ((v.ql : Int) == 0)
      · have hR : Hid (bareV v false false true false false = false) := Lib.hid (by simp [bareV, *])
        go_enter Tryd.func46, Tryd.ntmps46
        go_wp2
        go_ret
        exact ⟨ret_bool hR.out.symm, bel1 w _⟩
      · cases h4 : v.opn
        · cases h5 : ((v.kl : Int) == 0)
          · have hR : Hid (bareV v false false true false false = false) := Lib.hid (by simp [bareV, *])
            go_enter Tryd.func46, Tryd.ntmps46
            go_wp2
            go_ret
            exact ⟨ret_bool hR.out.symm, bel1 w _⟩
          · have hR : Hid (bareV v false false true false false = true) := Lib.hid (by simp [bareV, *])
            go_enter Tryd.func46, Tryd.ntmps46
            go_wp2
            go_ret
            exact ⟨ret_bool hR.out.symm, bel1 w _⟩
        · have hR : Hid (bareV v false false true false false = false) := Lib.hid (by simp [bareV, *])
          go_enter Tryd.func46, Tryd.ntmps46
          go_wp2
          go_ret
          exact ⟨ret_bool hR.out.symm, bel1 w _⟩
set_option maxHeartbeats 4000000 in
theorem bare_3 (v : V7) (w : World) : Calls Tryd.prog 46 #[.agg #[.int .i64 v.op, .int .i64 v.num, .string v.tx, .slice v.pa v.pl v.pc, .slice v.qa v.ql v.qc, .bool v.opn, .slice v.ka v.kl v.kc], .bool false, .bool false, .bool false, .bool true, .bool false] w fun e w' => e = .returned (.bool (bareV v false false false true false)) ∧ Below w.heap.size w w' := by
  cases h0 : (v.num == 0)
  · have hR : Hid (bareV v false false false true false = false) := Lib.hid (by simp [bareV, *])
    go_enter Tryd.func46, Tryd.ntmps46
    go_wp2
    go_ret
    exact ⟨ret_bool hR.out.symm, bel1 w _⟩
  · cases h1 : (v.tx.toList == [])
    · have hR : Hid (bareV v false false false true false = false) := Lib.hid (by simp [bareV, *])
      go_enter Tryd.func46, Tryd.ntmps46
      go_wp2
      go_ret
      exact ⟨ret_bool hR.out.symm, bel1 w _⟩
    · cases h2 : ((v.pl : Int) == 0)
      · have hR : Hid (bareV v false false false true false = false) := Lib.hid (by simp [bareV, *])
        go_enter Tryd.func46, Tryd.ntmps46
        go_wp2
        go_ret
        exact ⟨ret_bool hR.out.symm, bel1 w _⟩
      · cases h5 : ((v.kl : Int) == 0)
        · have hR : Hid (bareV v false false false true false = false) := Lib.hid (by simp [bareV, *])
          go_enter Tryd.func46, Tryd.ntmps46
          go_wp2
          go_ret
          exact ⟨ret_bool hR.out.symm, bel1 w _⟩
        · have hR : Hid (bareV v false false false true false = true) := Lib.hid (by simp [bareV, *])
          go_enter Tryd.func46, Tryd.ntmps46
          go_wp2
          go_ret
          exact ⟨ret_bool hR.out.symm, bel1 w _⟩
set_option maxHeartbeats 4000000 in
theorem bare_4 (v : V7) (w : World) : Calls Tryd.prog 46 #[.agg #[.int .i64 v.op, .int .i64 v.num, .string v.tx, .slice v.pa v.pl v.pc, .slice v.qa v.ql v.qc, .bool v.opn, .slice v.ka v.kl v.kc], .bool false, .bool false, .bool false, .bool false, .bool true] w fun e w' => e = .returned (.bool (bareV v false false false false true)) ∧ Below w.heap.size w w' := by
  cases h0 : (v.num == 0)
  · have hR : Hid (bareV v false false false false true = false) := Lib.hid (by simp [bareV, *])
    go_enter Tryd.func46, Tryd.ntmps46
    go_wp2
    go_ret
    exact ⟨ret_bool hR.out.symm, bel1 w _⟩
  · cases h1 : (v.tx.toList == [])
    · have hR : Hid (bareV v false false false false true = false) := Lib.hid (by simp [bareV, *])
      go_enter Tryd.func46, Tryd.ntmps46
      go_wp2
      go_ret
      exact ⟨ret_bool hR.out.symm, bel1 w _⟩
    · cases h2 : ((v.pl : Int) == 0)
      · have hR : Hid (bareV v false false false false true = false) := Lib.hid (by simp [bareV, *])
        go_enter Tryd.func46, Tryd.ntmps46
        go_wp2
        go_ret
        exact ⟨ret_bool hR.out.symm, bel1 w _⟩
      · cases h3 : ((v.ql : Int) == 0)
        · have hR : Hid (bareV v false false false false true = false) := Lib.hid (by simp [bareV, *])
          go_enter Tryd.func46, Tryd.ntmps46
          go_wp2
          go_ret
          exact ⟨ret_bool hR.out.symm, bel1 w _⟩
        · cases h4 : v.opn
          · have hR : Hid (bareV v false false false false true = true) := Lib.hid (by simp [bareV, *])
            go_enter Tryd.func46, Tryd.ntmps46
            go_wp2
            go_ret
            exact ⟨ret_bool hR.out.symm, bel1 w _⟩
          · have hR : Hid (bareV v false false false false true = false) := Lib.hid (by simp [bareV, *])
            go_enter Tryd.func46, Tryd.ntmps46
            go_wp2
            go_ret
            exact ⟨ret_bool hR.out.symm, bel1 w _⟩
set_option maxHeartbeats 4000000 in
theorem bare_5 (v : V7) (w : World) : Calls Tryd.prog 46 #[.agg #[.int .i64 v.op, .int .i64 v.num, .string v.tx, .slice v.pa v.pl v.pc, .slice v.qa v.ql v.qc, .bool v.opn, .slice v.ka v.kl v.kc], .bool false, .bool false, .bool false, .bool false, .bool false] w fun e w' => e = .returned (.bool (bareV v false false false false false)) ∧ Below w.heap.size w w' := by
  cases h0 : (v.num == 0)
  · have hR : Hid (bareV v false false false false false = false) := Lib.hid (by simp [bareV, *])
    go_enter Tryd.func46, Tryd.ntmps46
    go_wp2
    go_ret
    exact ⟨ret_bool hR.out.symm, bel1 w _⟩
  · cases h1 : (v.tx.toList == [])
    · have hR : Hid (bareV v false false false false false = false) := Lib.hid (by simp [bareV, *])
      go_enter Tryd.func46, Tryd.ntmps46
      go_wp2
      go_ret
      exact ⟨ret_bool hR.out.symm, bel1 w _⟩
    · cases h2 : ((v.pl : Int) == 0)
      · have hR : Hid (bareV v false false false false false = false) := Lib.hid (by simp [bareV, *])
        go_enter Tryd.func46, Tryd.ntmps46
        go_wp2
        go_ret
        exact ⟨ret_bool hR.out.symm, bel1 w _⟩
      · cases h3 : ((v.ql : Int) == 0)
        · have hR : Hid (bareV v false false false false false = false) := Lib.hid (by simp [bareV, *])
          go_enter Tryd.func46, Tryd.ntmps46
          go_wp2
          go_ret
          exact ⟨ret_bool hR.out.symm, bel1 w _⟩
        · cases h4 : v.opn
          · cases h5 : ((v.kl : Int) == 0)
            · have hR : Hid (bareV v false false false false false = false) := Lib.hid (by simp [bareV, *])
              go_enter Tryd.func46, Tryd.ntmps46
              go_wp2
              go_ret
              exact ⟨ret_bool hR.out.symm, bel1 w _⟩
            · have hR : Hid (bareV v false false false false false = true) := Lib.hid (by simp [bareV, *])
              go_enter Tryd.func46, Tryd.ntmps46
              go_wp2
              go_ret
              exact ⟨ret_bool hR.out.symm, bel1 w _⟩
          · have hR : Hid (bareV v false false false false false = false) := Lib.hid (by simp [bareV, *])
            go_enter Tryd.func46, Tryd.ntmps46
            go_wp2
            go_ret
            exact ⟨ret_bool hR.out.symm, bel1 w _⟩
end Go.Proofs.YtigdibglkejciaaDoor.Ex
