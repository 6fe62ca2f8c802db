/-
  Is an expression right? In the reference.
-/
import Derived.Test.YtigdibglkejciaaDoorE30
namespace Go.Proofs.YtigdibglkejciaaDoor.Ex
open Go.RowKit Go
set_option linter.unusedSimpArgs false

/-- What the reference reckons: by the cells, the path, the pairs' names, whether the pairs' and the kids' expressions are right. -/
def rawV (v : V7) (p nm : List ByteArray) (ap ak : Bool) : Bool :=
  if v.op = 1 ∨ v.op = 7 ∨ v.op = 8 then bareV v true false false false false && numIn v.num
  else if v.op = 2 then bareV v false true false false false && decide ((v.tx.size : Int) ≤ 256)
  else if v.op = 3 then bareV v true false false false false && (decide (0 ≤ v.num) && decide (v.num ≤ 1))
  else if v.op = 4 then bareV v true false false false false && ((decide (1 ≤ v.num) && decide (v.num ≤ 5)) && v.num != 4)
  else if v.op = 5 ∨ v.op = 6 then bareV v false false false false false
  else if v.op = 9 then bareV v false false true false false && path p
  else if v.op = 10 then bareV v false false false true false && (ap && (decide ((v.ql : Int) ≤ 32) && rising nm))
  else if v.op = 11 ∨ v.op = 12 then bareV v false false false false true && (ak && (decide ((2 : Int) ≤ v.kl) && decide ((v.kl : Int) ≤ 32)))
  else if v.op = 13 ∨ v.op = 14 ∨ v.op = 15 then bareV v false false false false true && (ak && (decide ((2 : Int) ≤ v.kl) && decide ((v.kl : Int) ≤ 2)))
  else false
theorem bare_kl {v : V7} {a b c d : Bool} (h : bareV v a b c d false = true) : v.kl = 0 := by
  have h2 : ((v.kl : Int) == 0) = true := by
    simp only [bareV, Bool.and_eq_true, Bool.false_or] at h
    exact h.2
  have := of_decide_eq_true (p := (v.kl : Int) = 0) (by simpa using h2)
  omega
theorem raw_right {n : Nat} {w : World} {B : Nat} {v : V7} {x : Ex (n + 1)} (h : ExIn w B (n + 1) v x) : rawV v x.2.1 (x.2.2.1.map (·.1)) (x.2.2.1.all (fun p => rightE n p.2)) (x.2.2.2.all (rightE n)) = rightE (n + 1) x := by
  rw [rightE_succ, ← shapeE_of h]
  have hop := h.1
  have hk := h.2.2.2.2.2.2.1
  have key : v.kl = 0 → x.2.2.2.all (rightE n) = true := fun e => by
    have : x.2.2.2 = [] := List.eq_nil_of_length_eq_zero (by omega)
    rw [this]; rfl
  unfold rawV shapeV partsE
  rw [← hop]
  clear h hk
  have no : ∀ {b c : Bool}, (b = true → v.kl = 0) → (b && c) = ((b && c) && x.2.2.2.all (rightE n)) := fun {b c} hb => by
    cases b
    · rfl
    · rw [key (hb rfl)]; simp
  have no1 : ∀ {b : Bool}, (b = true → v.kl = 0) → b = (b && x.2.2.2.all (rightE n)) := fun {b} hb => by
    cases b
    · rfl
    · rw [key (hb rfl)]; rfl
  by_cases h1 : v.op = 1 ∨ v.op = 7 ∨ v.op = 8
  · rw [if_pos h1, if_pos h1, if_neg (by omega)]; exact no bare_kl
  rw [if_neg h1, if_neg h1]
  by_cases h2 : v.op = 2
  · rw [if_pos h2, if_pos h2, if_neg (by omega)]; exact no bare_kl
  rw [if_neg h2, if_neg h2]
  by_cases h3 : v.op = 3
  · rw [if_pos h3, if_pos h3, if_neg (by omega)]
    have e : (decide (0 ≤ v.num) && decide (v.num ≤ 1)) = (v.num == 0 || v.num == 1) := by
      rw [Bool.eq_iff_iff]; simp; omega
    rw [e]; exact no bare_kl
  rw [if_neg h3, if_neg h3]
  by_cases h4 : v.op = 4
  · rw [if_pos h4, if_pos h4, if_neg (by omega)]
    have e : ((decide (1 ≤ v.num) && decide (v.num ≤ 5)) && v.num != 4) = (v.num == 1 || v.num == 2 || v.num == 3 || v.num == 5) := by
      rw [Bool.eq_iff_iff]; simp; omega
    rw [e]; exact no bare_kl
  rw [if_neg h4, if_neg h4]
  by_cases h5 : v.op = 5 ∨ v.op = 6
  · rw [if_pos h5, if_pos h5, if_neg (by omega)]; exact no1 bare_kl
  rw [if_neg h5, if_neg h5]
  by_cases h9 : v.op = 9
  · rw [if_pos h9, if_pos h9, if_neg (by omega)]; exact no bare_kl
  rw [if_neg h9, if_neg h9]
  by_cases h10 : v.op = 10
  · rw [if_pos h10, if_pos h10, if_pos h10, List.all_map]
    show _ = (_ && x.2.2.1.all (fun p => rightE n p.2))
    generalize x.2.2.1.all (fun p => rightE n p.2) = t
    cases t <;> simp
  rw [if_neg h10, if_neg h10, if_neg h10]
  by_cases h11 : v.op = 11 ∨ v.op = 12
  · rw [if_pos h11, if_pos h11]
    generalize x.2.2.2.all (rightE n) = t
    cases t <;> simp
  rw [if_neg h11, if_neg h11]
  by_cases h13 : v.op = 13 ∨ v.op = 14 ∨ v.op = 15
  · rw [if_pos h13, if_pos h13]
    have e : (decide ((2 : Int) ≤ v.kl) && decide ((v.kl : Int) ≤ 2)) = ((v.kl : Int) == 2) := by
      rw [Bool.eq_iff_iff]; simp; omega
    rw [e]
    generalize x.2.2.2.all (rightE n) = t
    cases t <;> simp
  rw [if_neg h13, if_neg h13]
  rfl
set_option maxRecDepth 100000 in
set_option maxHeartbeats 8000000 in
theorem rightR_1 (n B d : Nat) (HD : Hid (RightROk n)) (vnum : Int) (vtx : ByteArray) (vpa : Option Addr) (vpl vpc : Nat) (vqa : Option Addr) (vql vqc : Nat) (vopn : Bool) (vka : Option Addr) (vkl vkc : Nat) (p : List ByteArray) (q : List (ByteArray × Ex n)) (kl : List (Ex n)) (w : World) (hB : B ≤ w.heap.size) (hps : StrsIn w B vpa vpl p) (hqs : PairsIn (ExIn w B n) w B vqa vql q) (hks : KidsIn (ExIn w B n) w B vka vkl kl) (hsq : ∀ i (h : i < q.length), SmallE n d q[i].2) (h200 : q.length ≤ 200) (hsk : ∀ i (h : i < kl.length), SmallE n d kl[i]) : Calls Tryd.prog 18 #[.agg #[.int .i64 1, .int .i64 vnum, .string vtx, .slice vpa vpl vpc, .slice vqa vql vqc, .bool vopn, .slice vka vkl vkc]] w fun e w' => e = .returned (.bool (rawV ⟨1, vnum, vtx, vpa, vpl, vpc, vqa, vql, vqc, vopn, vka, vkl, vkc⟩ p (q.map (·.1)) (q.all (fun p => rightE n p.2)) (kl.all (rightE n)))) ∧ Below w.heap.size w w' := by
  have hu := And.intro HD (And.intro hB (And.intro hps (And.intro hqs (And.intro hks (And.intro hsq (And.intro h200 hsk))))))
  clear hu
  have hb1 := bel1 w (.cells #[.int .i64 1, .int .i64 vnum, .string vtx, .slice vpa vpl vpc, .slice vqa vql vqc, .bool vopn, .slice vka vkl vkc] 26)
  have NA := Lib.hid (new_cells w #[.int .i64 1, .int .i64 vnum, .string vtx, .slice vpa vpl vpc, .slice vqa vql vqc, .bool vopn, .slice vka vkl vkc] 26)
  have hs1 := hb1.size
  have hl0 : w.heap.size < (w.alloc (.cells #[.int .i64 1, .int .i64 vnum, .string vtx, .slice vpa vpl vpc, .slice vqa vql vqc, .bool vopn, .slice vka vkl vkc] 26)).heap.size := by simp
  have HB := Lib.hid (empty_0 ⟨1, vnum, vtx, vpa, vpl, vpc, vqa, vql, vqc, vopn, vka, vkl, vkc⟩ (w.alloc (.cells #[.int .i64 1, .int .i64 vnum, .string vtx, .slice vpa vpl vpc, .slice vqa vql vqc, .bool vopn, .slice vka vkl vkc] 26)))
  generalize hbb : bareV ⟨1, vnum, vtx, vpa, vpl, vpc, vqa, vql, vqc, vopn, vka, vkl, vkc⟩ true false false false false = b at HB
  have HB2 : Hid (bareV ⟨1, vnum, vtx, vpa, vpl, vpc, vqa, vql, vqc, vopn, vka, vkl, vkc⟩ true false false false false = b) := Lib.hid hbb
  dsimp only at HB
  clear hbb
  clear hps hqs hks hsq hsk HD
  generalize hni : numIn vnum = c
  have HI : Hid (∀ W, Calls Tryd.prog 38 #[.int .i64 vnum] W fun e w' => e = .returned (.bool c) ∧ W = w') := Lib.hid (fun W => hni ▸ inR_any vnum W)
  have HN := Lib.hid hni
  clear hni
  cases b
  · have hR : Hid (rawV ⟨1, vnum, vtx, vpa, vpl, vpc, vqa, vql, vqc, vopn, vka, vkl, vkc⟩ p (q.map (·.1)) (q.all (fun p => rightE n p.2)) (kl.all (rightE n)) = false) := Lib.hid (by simp [rawV, HB2.out])
    go_enter Tryd.func18, Tryd.ntmps18
    go_wp2_with (first | (go_at_call 37; (with_reducible refine HB.out.mono ?_); rintro e w2 ⟨rfl, hb2⟩; have hs2 := hb2.size; have hA : ∀ o, w2.cell? ⟨w.heap.size, o, none⟩ = #[.int .i64 1, .int .i64 vnum, .string vtx, .slice vpa vpl vpc, .slice vqa vql vqc, .bool vopn, .slice vka vkl vkc][o]? := fun o => (hb2.cell (p := ⟨w.heap.size, o, none⟩) hl0).trans (cells_of NA.out o)))
    go_ret
    exact ⟨ret_bool hR.out.symm, hb1.trans (hb2.mono hs1)⟩
  · have hR : Hid (rawV ⟨1, vnum, vtx, vpa, vpl, vpc, vqa, vql, vqc, vopn, vka, vkl, vkc⟩ p (q.map (·.1)) (q.all (fun p => rightE n p.2)) (kl.all (rightE n)) = c) := Lib.hid (by simp [rawV, HB2.out, HN.out])
    go_enter Tryd.func18, Tryd.ntmps18
    go_wp2_with (first | (go_at_call 37; (with_reducible refine HB.out.mono ?_); rintro e w2 ⟨rfl, hb2⟩; have hs2 := hb2.size; have hA : ∀ o, w2.cell? ⟨w.heap.size, o, none⟩ = #[.int .i64 1, .int .i64 vnum, .string vtx, .slice vpa vpl vpc, .slice vqa vql vqc, .bool vopn, .slice vka vkl vkc][o]? := fun o => (hb2.cell (p := ⟨w.heap.size, o, none⟩) hl0).trans (cells_of NA.out o)) | (go_at_call 38; (with_reducible refine (HI.out _).mono ?_); rintro e w3 ⟨rfl, rfl⟩))
    go_ret
    exact ⟨ret_bool hR.out.symm, hb1.trans (hb2.mono hs1)⟩
set_option maxRecDepth 100000 in
set_option maxHeartbeats 8000000 in
theorem rightR_7 (n B d : Nat) (HD : Hid (RightROk n)) (vnum : Int) (vtx : ByteArray) (vpa : Option Addr) (vpl vpc : Nat) (vqa : Option Addr) (vql vqc : Nat) (vopn : Bool) (vka : Option Addr) (vkl vkc : Nat) (p : List ByteArray) (q : List (ByteArray × Ex n)) (kl : List (Ex n)) (w : World) (hB : B ≤ w.heap.size) (hps : StrsIn w B vpa vpl p) (hqs : PairsIn (ExIn w B n) w B vqa vql q) (hks : KidsIn (ExIn w B n) w B vka vkl kl) (hsq : ∀ i (h : i < q.length), SmallE n d q[i].2) (h200 : q.length ≤ 200) (hsk : ∀ i (h : i < kl.length), SmallE n d kl[i]) : Calls Tryd.prog 18 #[.agg #[.int .i64 7, .int .i64 vnum, .string vtx, .slice vpa vpl vpc, .slice vqa vql vqc, .bool vopn, .slice vka vkl vkc]] w fun e w' => e = .returned (.bool (rawV ⟨7, vnum, vtx, vpa, vpl, vpc, vqa, vql, vqc, vopn, vka, vkl, vkc⟩ p (q.map (·.1)) (q.all (fun p => rightE n p.2)) (kl.all (rightE n)))) ∧ Below w.heap.size w w' := by
  have hu := And.intro HD (And.intro hB (And.intro hps (And.intro hqs (And.intro hks (And.intro hsq (And.intro h200 hsk))))))
  clear hu
  have hb1 := bel1 w (.cells #[.int .i64 7, .int .i64 vnum, .string vtx, .slice vpa vpl vpc, .slice vqa vql vqc, .bool vopn, .slice vka vkl vkc] 26)
  have NA := Lib.hid (new_cells w #[.int .i64 7, .int .i64 vnum, .string vtx, .slice vpa vpl vpc, .slice vqa vql vqc, .bool vopn, .slice vka vkl vkc] 26)
  have hs1 := hb1.size
  have hl0 : w.heap.size < (w.alloc (.cells #[.int .i64 7, .int .i64 vnum, .string vtx, .slice vpa vpl vpc, .slice vqa vql vqc, .bool vopn, .slice vka vkl vkc] 26)).heap.size := by simp
  have HB := Lib.hid (empty_0 ⟨7, vnum, vtx, vpa, vpl, vpc, vqa, vql, vqc, vopn, vka, vkl, vkc⟩ (w.alloc (.cells #[.int .i64 7, .int .i64 vnum, .string vtx, .slice vpa vpl vpc, .slice vqa vql vqc, .bool vopn, .slice vka vkl vkc] 26)))
  generalize hbb : bareV ⟨7, vnum, vtx, vpa, vpl, vpc, vqa, vql, vqc, vopn, vka, vkl, vkc⟩ true false false false false = b at HB
  have HB2 : Hid (bareV ⟨7, vnum, vtx, vpa, vpl, vpc, vqa, vql, vqc, vopn, vka, vkl, vkc⟩ true false false false false = b) := Lib.hid hbb
  dsimp only at HB
  clear hbb
  clear hps hqs hks hsq hsk HD
  generalize hni : numIn vnum = c
  have HI : Hid (∀ W, Calls Tryd.prog 38 #[.int .i64 vnum] W fun e w' => e = .returned (.bool c) ∧ W = w') := Lib.hid (fun W => hni ▸ inR_any vnum W)
  have HN := Lib.hid hni
  clear hni
  cases b
  · have hR : Hid (rawV ⟨7, vnum, vtx, vpa, vpl, vpc, vqa, vql, vqc, vopn, vka, vkl, vkc⟩ p (q.map (·.1)) (q.all (fun p => rightE n p.2)) (kl.all (rightE n)) = false) := Lib.hid (by simp [rawV, HB2.out])
    go_enter Tryd.func18, Tryd.ntmps18
    go_wp2_with (first | (go_at_call 37; (with_reducible refine HB.out.mono ?_); rintro e w2 ⟨rfl, hb2⟩; have hs2 := hb2.size; have hA : ∀ o, w2.cell? ⟨w.heap.size, o, none⟩ = #[.int .i64 7, .int .i64 vnum, .string vtx, .slice vpa vpl vpc, .slice vqa vql vqc, .bool vopn, .slice vka vkl vkc][o]? := fun o => (hb2.cell (p := ⟨w.heap.size, o, none⟩) hl0).trans (cells_of NA.out o)))
    go_ret
    exact ⟨ret_bool hR.out.symm, hb1.trans (hb2.mono hs1)⟩
  · have hR : Hid (rawV ⟨7, vnum, vtx, vpa, vpl, vpc, vqa, vql, vqc, vopn, vka, vkl, vkc⟩ p (q.map (·.1)) (q.all (fun p => rightE n p.2)) (kl.all (rightE n)) = c) := Lib.hid (by simp [rawV, HB2.out, HN.out])
    go_enter Tryd.func18, Tryd.ntmps18
    go_wp2_with (first | (go_at_call 37; (with_reducible refine HB.out.mono ?_); rintro e w2 ⟨rfl, hb2⟩; have hs2 := hb2.size; have hA : ∀ o, w2.cell? ⟨w.heap.size, o, none⟩ = #[.int .i64 7, .int .i64 vnum, .string vtx, .slice vpa vpl vpc, .slice vqa vql vqc, .bool vopn, .slice vka vkl vkc][o]? := fun o => (hb2.cell (p := ⟨w.heap.size, o, none⟩) hl0).trans (cells_of NA.out o)) | (go_at_call 38; (with_reducible refine (HI.out _).mono ?_); rintro e w3 ⟨rfl, rfl⟩))
    go_ret
    exact ⟨ret_bool hR.out.symm, hb1.trans (hb2.mono hs1)⟩
set_option maxRecDepth 100000 in
set_option maxHeartbeats 8000000 in
theorem rightR_8 (n B d : Nat) (HD : Hid (RightROk n)) (vnum : Int) (vtx : ByteArray) (vpa : Option Addr) (vpl vpc : Nat) (vqa : Option Addr) (vql vqc : Nat) (vopn : Bool) (vka : Option Addr) (vkl vkc : Nat) (p : List ByteArray) (q : List (ByteArray × Ex n)) (kl : List (Ex n)) (w : World) (hB : B ≤ w.heap.size) (hps : StrsIn w B vpa vpl p) (hqs : PairsIn (ExIn w B n) w B vqa vql q) (hks : KidsIn (ExIn w B n) w B vka vkl kl) (hsq : ∀ i (h : i < q.length), SmallE n d q[i].2) (h200 : q.length ≤ 200) (hsk : ∀ i (h : i < kl.length), SmallE n d kl[i]) : Calls Tryd.prog 18 #[.agg #[.int .i64 8, .int .i64 vnum, .string vtx, .slice vpa vpl vpc, .slice vqa vql vqc, .bool vopn, .slice vka vkl vkc]] w fun e w' => e = .returned (.bool (rawV ⟨8, vnum, vtx, vpa, vpl, vpc, vqa, vql, vqc, vopn, vka, vkl, vkc⟩ p (q.map (·.1)) (q.all (fun p => rightE n p.2)) (kl.all (rightE n)))) ∧ Below w.heap.size w w' := by
  have hu := And.intro HD (And.intro hB (And.intro hps (And.intro hqs (And.intro hks (And.intro hsq (And.intro h200 hsk))))))
  clear hu
  have hb1 := bel1 w (.cells #[.int .i64 8, .int .i64 vnum, .string vtx, .slice vpa vpl vpc, .slice vqa vql vqc, .bool vopn, .slice vka vkl vkc] 26)
  have NA := Lib.hid (new_cells w #[.int .i64 8, .int .i64 vnum, .string vtx, .slice vpa vpl vpc, .slice vqa vql vqc, .bool vopn, .slice vka vkl vkc] 26)
  have hs1 := hb1.size
  have hl0 : w.heap.size < (w.alloc (.cells #[.int .i64 8, .int .i64 vnum, .string vtx, .slice vpa vpl vpc, .slice vqa vql vqc, .bool vopn, .slice vka vkl vkc] 26)).heap.size := by simp
  have HB := Lib.hid (empty_0 ⟨8, vnum, vtx, vpa, vpl, vpc, vqa, vql, vqc, vopn, vka, vkl, vkc⟩ (w.alloc (.cells #[.int .i64 8, .int .i64 vnum, .string vtx, .slice vpa vpl vpc, .slice vqa vql vqc, .bool vopn, .slice vka vkl vkc] 26)))
  generalize hbb : bareV ⟨8, vnum, vtx, vpa, vpl, vpc, vqa, vql, vqc, vopn, vka, vkl, vkc⟩ true false false false false = b at HB
  have HB2 : Hid (bareV ⟨8, vnum, vtx, vpa, vpl, vpc, vqa, vql, vqc, vopn, vka, vkl, vkc⟩ true false false false false = b) := Lib.hid hbb
  dsimp only at HB
  clear hbb
  clear hps hqs hks hsq hsk HD
  generalize hni : numIn vnum = c
  have HI : Hid (∀ W, Calls Tryd.prog 38 #[.int .i64 vnum] W fun e w' => e = .returned (.bool c) ∧ W = w') := Lib.hid (fun W => hni ▸ inR_any vnum W)
  have HN := Lib.hid hni
  clear hni
  cases b
  · have hR : Hid (rawV ⟨8, vnum, vtx, vpa, vpl, vpc, vqa, vql, vqc, vopn, vka, vkl, vkc⟩ p (q.map (·.1)) (q.all (fun p => rightE n p.2)) (kl.all (rightE n)) = false) := Lib.hid (by simp [rawV, HB2.out])
    go_enter Tryd.func18, Tryd.ntmps18
    go_wp2_with (first | (go_at_call 37; (with_reducible refine HB.out.mono ?_); rintro e w2 ⟨rfl, hb2⟩; have hs2 := hb2.size; have hA : ∀ o, w2.cell? ⟨w.heap.size, o, none⟩ = #[.int .i64 8, .int .i64 vnum, .string vtx, .slice vpa vpl vpc, .slice vqa vql vqc, .bool vopn, .slice vka vkl vkc][o]? := fun o => (hb2.cell (p := ⟨w.heap.size, o, none⟩) hl0).trans (cells_of NA.out o)))
    go_ret
    exact ⟨ret_bool hR.out.symm, hb1.trans (hb2.mono hs1)⟩
  · have hR : Hid (rawV ⟨8, vnum, vtx, vpa, vpl, vpc, vqa, vql, vqc, vopn, vka, vkl, vkc⟩ p (q.map (·.1)) (q.all (fun p => rightE n p.2)) (kl.all (rightE n)) = c) := Lib.hid (by simp [rawV, HB2.out, HN.out])
    go_enter Tryd.func18, Tryd.ntmps18
    go_wp2_with (first | (go_at_call 37; (with_reducible refine HB.out.mono ?_); rintro e w2 ⟨rfl, hb2⟩; have hs2 := hb2.size; have hA : ∀ o, w2.cell? ⟨w.heap.size, o, none⟩ = #[.int .i64 8, .int .i64 vnum, .string vtx, .slice vpa vpl vpc, .slice vqa vql vqc, .bool vopn, .slice vka vkl vkc][o]? := fun o => (hb2.cell (p := ⟨w.heap.size, o, none⟩) hl0).trans (cells_of NA.out o)) | (go_at_call 38; (with_reducible refine (HI.out _).mono ?_); rintro e w3 ⟨rfl, rfl⟩))
    go_ret
    exact ⟨ret_bool hR.out.symm, hb1.trans (hb2.mono hs1)⟩
set_option maxRecDepth 100000 in
set_option maxHeartbeats 8000000 in
theorem rightR_2 (n B d : Nat) (HD : Hid (RightROk n)) (vnum : Int) (vtx : ByteArray) (vpa : Option Addr) (vpl vpc : Nat) (vqa : Option Addr) (vql vqc : Nat) (vopn : Bool) (vka : Option Addr) (vkl vkc : Nat) (p : List ByteArray) (q : List (ByteArray × Ex n)) (kl : List (Ex n)) (w : World) (hB : B ≤ w.heap.size) (hps : StrsIn w B vpa vpl p) (hqs : PairsIn (ExIn w B n) w B vqa vql q) (hks : KidsIn (ExIn w B n) w B vka vkl kl) (hsq : ∀ i (h : i < q.length), SmallE n d q[i].2) (h200 : q.length ≤ 200) (hsk : ∀ i (h : i < kl.length), SmallE n d kl[i]) : Calls Tryd.prog 18 #[.agg #[.int .i64 2, .int .i64 vnum, .string vtx, .slice vpa vpl vpc, .slice vqa vql vqc, .bool vopn, .slice vka vkl vkc]] w fun e w' => e = .returned (.bool (rawV ⟨2, vnum, vtx, vpa, vpl, vpc, vqa, vql, vqc, vopn, vka, vkl, vkc⟩ p (q.map (·.1)) (q.all (fun p => rightE n p.2)) (kl.all (rightE n)))) ∧ Below w.heap.size w w' := by
  have hu := And.intro HD (And.intro hB (And.intro hps (And.intro hqs (And.intro hks (And.intro hsq (And.intro h200 hsk))))))
  clear hu
  have hb1 := bel1 w (.cells #[.int .i64 2, .int .i64 vnum, .string vtx, .slice vpa vpl vpc, .slice vqa vql vqc, .bool vopn, .slice vka vkl vkc] 26)
  have NA := Lib.hid (new_cells w #[.int .i64 2, .int .i64 vnum, .string vtx, .slice vpa vpl vpc, .slice vqa vql vqc, .bool vopn, .slice vka vkl vkc] 26)
  have hs1 := hb1.size
  have hl0 : w.heap.size < (w.alloc (.cells #[.int .i64 2, .int .i64 vnum, .string vtx, .slice vpa vpl vpc, .slice vqa vql vqc, .bool vopn, .slice vka vkl vkc] 26)).heap.size := by simp
  have HB := Lib.hid (empty_1 ⟨2, vnum, vtx, vpa, vpl, vpc, vqa, vql, vqc, vopn, vka, vkl, vkc⟩ (w.alloc (.cells #[.int .i64 2, .int .i64 vnum, .string vtx, .slice vpa vpl vpc, .slice vqa vql vqc, .bool vopn, .slice vka vkl vkc] 26)))
  generalize hbb : bareV ⟨2, vnum, vtx, vpa, vpl, vpc, vqa, vql, vqc, vopn, vka, vkl, vkc⟩ false true false false false = b at HB
  have HB2 : Hid (bareV ⟨2, vnum, vtx, vpa, vpl, vpc, vqa, vql, vqc, vopn, vka, vkl, vkc⟩ false true false false false = b) := Lib.hid hbb
  dsimp only at HB
  clear hbb
  clear hps hqs hks hsq hsk HD
  cases b
  · have hR : Hid (rawV ⟨2, vnum, vtx, vpa, vpl, vpc, vqa, vql, vqc, vopn, vka, vkl, vkc⟩ p (q.map (·.1)) (q.all (fun p => rightE n p.2)) (kl.all (rightE n)) = false) := Lib.hid (by simp [rawV, HB2.out])
    go_enter Tryd.func18, Tryd.ntmps18
    go_wp2_with (first | (go_at_call 37; (with_reducible refine HB.out.mono ?_); rintro e w2 ⟨rfl, hb2⟩; have hs2 := hb2.size; have hA : ∀ o, w2.cell? ⟨w.heap.size, o, none⟩ = #[.int .i64 2, .int .i64 vnum, .string vtx, .slice vpa vpl vpc, .slice vqa vql vqc, .bool vopn, .slice vka vkl vkc][o]? := fun o => (hb2.cell (p := ⟨w.heap.size, o, none⟩) hl0).trans (cells_of NA.out o)))
    go_ret
    exact ⟨ret_bool hR.out.symm, hb1.trans (hb2.mono hs1)⟩
  · by_cases hz : (vtx.size : Int) ≤ 256
    · have hR : Hid (rawV ⟨2, vnum, vtx, vpa, vpl, vpc, vqa, vql, vqc, vopn, vka, vkl, vkc⟩ p (q.map (·.1)) (q.all (fun p => rightE n p.2)) (kl.all (rightE n)) = true) := Lib.hid (by simp [rawV, HB2.out]; omega)
      go_enter Tryd.func18, Tryd.ntmps18
      go_wp2_with (first | (go_at_call 37; (with_reducible refine HB.out.mono ?_); rintro e w2 ⟨rfl, hb2⟩; have hs2 := hb2.size; have hA : ∀ o, w2.cell? ⟨w.heap.size, o, none⟩ = #[.int .i64 2, .int .i64 vnum, .string vtx, .slice vpa vpl vpc, .slice vqa vql vqc, .bool vopn, .slice vka vkl vkc][o]? := fun o => (hb2.cell (p := ⟨w.heap.size, o, none⟩) hl0).trans (cells_of NA.out o)))
      go_ret
      exact ⟨ret_bool hR.out.symm, hb1.trans (hb2.mono hs1)⟩
    · have hR : Hid (rawV ⟨2, vnum, vtx, vpa, vpl, vpc, vqa, vql, vqc, vopn, vka, vkl, vkc⟩ p (q.map (·.1)) (q.all (fun p => rightE n p.2)) (kl.all (rightE n)) = false) := Lib.hid (by simp [rawV, HB2.out]; omega)
      have hz2 : (256 : Int) < (vtx.size : Int) := by omega
      clear hz
      go_enter Tryd.func18, Tryd.ntmps18
      go_wp2_with (first | (go_at_call 37; (with_reducible refine HB.out.mono ?_); rintro e w2 ⟨rfl, hb2⟩; have hs2 := hb2.size; have hA : ∀ o, w2.cell? ⟨w.heap.size, o, none⟩ = #[.int .i64 2, .int .i64 vnum, .string vtx, .slice vpa vpl vpc, .slice vqa vql vqc, .bool vopn, .slice vka vkl vkc][o]? := fun o => (hb2.cell (p := ⟨w.heap.size, o, none⟩) hl0).trans (cells_of NA.out o)))
      go_ret
      exact ⟨ret_bool (by rw [hR.out]; exact decide_eq_false (by omega)), hb1.trans (hb2.mono hs1)⟩
set_option maxRecDepth 100000 in
set_option maxHeartbeats 8000000 in
theorem rightR_3 (n B d : Nat) (HD : Hid (RightROk n)) (vnum : Int) (vtx : ByteArray) (vpa : Option Addr) (vpl vpc : Nat) (vqa : Option Addr) (vql vqc : Nat) (vopn : Bool) (vka : Option Addr) (vkl vkc : Nat) (p : List ByteArray) (q : List (ByteArray × Ex n)) (kl : List (Ex n)) (w : World) (hB : B ≤ w.heap.size) (hps : StrsIn w B vpa vpl p) (hqs : PairsIn (ExIn w B n) w B vqa vql q) (hks : KidsIn (ExIn w B n) w B vka vkl kl) (hsq : ∀ i (h : i < q.length), SmallE n d q[i].2) (h200 : q.length ≤ 200) (hsk : ∀ i (h : i < kl.length), SmallE n d kl[i]) : Calls Tryd.prog 18 #[.agg #[.int .i64 3, .int .i64 vnum, .string vtx, .slice vpa vpl vpc, .slice vqa vql vqc, .bool vopn, .slice vka vkl vkc]] w fun e w' => e = .returned (.bool (rawV ⟨3, vnum, vtx, vpa, vpl, vpc, vqa, vql, vqc, vopn, vka, vkl, vkc⟩ p (q.map (·.1)) (q.all (fun p => rightE n p.2)) (kl.all (rightE n)))) ∧ Below w.heap.size w w' := by
  have hu := And.intro HD (And.intro hB (And.intro hps (And.intro hqs (And.intro hks (And.intro hsq (And.intro h200 hsk))))))
  clear hu
  have hb1 := bel1 w (.cells #[.int .i64 3, .int .i64 vnum, .string vtx, .slice vpa vpl vpc, .slice vqa vql vqc, .bool vopn, .slice vka vkl vkc] 26)
  have NA := Lib.hid (new_cells w #[.int .i64 3, .int .i64 vnum, .string vtx, .slice vpa vpl vpc, .slice vqa vql vqc, .bool vopn, .slice vka vkl vkc] 26)
  have hs1 := hb1.size
  have hl0 : w.heap.size < (w.alloc (.cells #[.int .i64 3, .int .i64 vnum, .string vtx, .slice vpa vpl vpc, .slice vqa vql vqc, .bool vopn, .slice vka vkl vkc] 26)).heap.size := by simp
  have HB := Lib.hid (empty_0 ⟨3, vnum, vtx, vpa, vpl, vpc, vqa, vql, vqc, vopn, vka, vkl, vkc⟩ (w.alloc (.cells #[.int .i64 3, .int .i64 vnum, .string vtx, .slice vpa vpl vpc, .slice vqa vql vqc, .bool vopn, .slice vka vkl vkc] 26)))
  generalize hbb : bareV ⟨3, vnum, vtx, vpa, vpl, vpc, vqa, vql, vqc, vopn, vka, vkl, vkc⟩ true false false false false = b at HB
  have HB2 : Hid (bareV ⟨3, vnum, vtx, vpa, vpl, vpc, vqa, vql, vqc, vopn, vka, vkl, vkc⟩ true false false false false = b) := Lib.hid hbb
  dsimp only at HB
  clear hbb
  clear hps hqs hks hsq hsk HD
  cases b
  · have hR : Hid (rawV ⟨3, vnum, vtx, vpa, vpl, vpc, vqa, vql, vqc, vopn, vka, vkl, vkc⟩ p (q.map (·.1)) (q.all (fun p => rightE n p.2)) (kl.all (rightE n)) = false) := Lib.hid (by simp [rawV, HB2.out])
    go_enter Tryd.func18, Tryd.ntmps18
    go_wp2_with (first | (go_at_call 37; (with_reducible refine HB.out.mono ?_); rintro e w2 ⟨rfl, hb2⟩; have hs2 := hb2.size; have hA : ∀ o, w2.cell? ⟨w.heap.size, o, none⟩ = #[.int .i64 3, .int .i64 vnum, .string vtx, .slice vpa vpl vpc, .slice vqa vql vqc, .bool vopn, .slice vka vkl vkc][o]? := fun o => (hb2.cell (p := ⟨w.heap.size, o, none⟩) hl0).trans (cells_of NA.out o)))
    go_ret
    exact ⟨ret_bool hR.out.symm, hb1.trans (hb2.mono hs1)⟩
  · have hR : Hid (rawV ⟨3, vnum, vtx, vpa, vpl, vpc, vqa, vql, vqc, vopn, vka, vkl, vkc⟩ p (q.map (·.1)) (q.all (fun p => rightE n p.2)) (kl.all (rightE n)) = (decide (0 ≤ vnum) && decide (vnum ≤ 1))) := Lib.hid (by simp [rawV, HB2.out])
    by_cases hz : 0 ≤ vnum
    · have hR2 : Hid (rawV ⟨3, vnum, vtx, vpa, vpl, vpc, vqa, vql, vqc, vopn, vka, vkl, vkc⟩ p (q.map (·.1)) (q.all (fun p => rightE n p.2)) (kl.all (rightE n)) = decide (vnum ≤ 1)) := Lib.hid (by rw [hR.out, decide_eq_true hz]; rfl)
      go_enter Tryd.func18, Tryd.ntmps18
      go_wp2_with (first | (go_at_call 37; (with_reducible refine HB.out.mono ?_); rintro e w2 ⟨rfl, hb2⟩; have hs2 := hb2.size; have hA : ∀ o, w2.cell? ⟨w.heap.size, o, none⟩ = #[.int .i64 3, .int .i64 vnum, .string vtx, .slice vpa vpl vpc, .slice vqa vql vqc, .bool vopn, .slice vka vkl vkc][o]? := fun o => (hb2.cell (p := ⟨w.heap.size, o, none⟩) hl0).trans (cells_of NA.out o)))
      go_ret
      exact ⟨ret_bool hR2.out.symm, hb1.trans (hb2.mono hs1)⟩
    · have hR2 : Hid (rawV ⟨3, vnum, vtx, vpa, vpl, vpc, vqa, vql, vqc, vopn, vka, vkl, vkc⟩ p (q.map (·.1)) (q.all (fun p => rightE n p.2)) (kl.all (rightE n)) = false) := Lib.hid (by rw [hR.out, decide_eq_false hz]; rfl)
      have hz2 : vnum < 0 := by omega
      clear hz
      go_enter Tryd.func18, Tryd.ntmps18
      go_wp2_with (first | (go_at_call 37; (with_reducible refine HB.out.mono ?_); rintro e w2 ⟨rfl, hb2⟩; have hs2 := hb2.size; have hA : ∀ o, w2.cell? ⟨w.heap.size, o, none⟩ = #[.int .i64 3, .int .i64 vnum, .string vtx, .slice vpa vpl vpc, .slice vqa vql vqc, .bool vopn, .slice vka vkl vkc][o]? := fun o => (hb2.cell (p := ⟨w.heap.size, o, none⟩) hl0).trans (cells_of NA.out o)))
      go_ret
      exact ⟨ret_bool hR2.out.symm, hb1.trans (hb2.mono hs1)⟩
set_option maxRecDepth 100000 in
set_option maxHeartbeats 8000000 in
theorem rightR_4 (n B d : Nat) (HD : Hid (RightROk n)) (vnum : Int) (vtx : ByteArray) (vpa : Option Addr) (vpl vpc : Nat) (vqa : Option Addr) (vql vqc : Nat) (vopn : Bool) (vka : Option Addr) (vkl vkc : Nat) (p : List ByteArray) (q : List (ByteArray × Ex n)) (kl : List (Ex n)) (w : World) (hB : B ≤ w.heap.size) (hps : StrsIn w B vpa vpl p) (hqs : PairsIn (ExIn w B n) w B vqa vql q) (hks : KidsIn (ExIn w B n) w B vka vkl kl) (hsq : ∀ i (h : i < q.length), SmallE n d q[i].2) (h200 : q.length ≤ 200) (hsk : ∀ i (h : i < kl.length), SmallE n d kl[i]) : Calls Tryd.prog 18 #[.agg #[.int .i64 4, .int .i64 vnum, .string vtx, .slice vpa vpl vpc, .slice vqa vql vqc, .bool vopn, .slice vka vkl vkc]] w fun e w' => e = .returned (.bool (rawV ⟨4, vnum, vtx, vpa, vpl, vpc, vqa, vql, vqc, vopn, vka, vkl, vkc⟩ p (q.map (·.1)) (q.all (fun p => rightE n p.2)) (kl.all (rightE n)))) ∧ Below w.heap.size w w' := by
  have hu := And.intro HD (And.intro hB (And.intro hps (And.intro hqs (And.intro hks (And.intro hsq (And.intro h200 hsk))))))
  clear hu
  have hb1 := bel1 w (.cells #[.int .i64 4, .int .i64 vnum, .string vtx, .slice vpa vpl vpc, .slice vqa vql vqc, .bool vopn, .slice vka vkl vkc] 26)
  have NA := Lib.hid (new_cells w #[.int .i64 4, .int .i64 vnum, .string vtx, .slice vpa vpl vpc, .slice vqa vql vqc, .bool vopn, .slice vka vkl vkc] 26)
  have hs1 := hb1.size
  have hl0 : w.heap.size < (w.alloc (.cells #[.int .i64 4, .int .i64 vnum, .string vtx, .slice vpa vpl vpc, .slice vqa vql vqc, .bool vopn, .slice vka vkl vkc] 26)).heap.size := by simp
  have HB := Lib.hid (empty_0 ⟨4, vnum, vtx, vpa, vpl, vpc, vqa, vql, vqc, vopn, vka, vkl, vkc⟩ (w.alloc (.cells #[.int .i64 4, .int .i64 vnum, .string vtx, .slice vpa vpl vpc, .slice vqa vql vqc, .bool vopn, .slice vka vkl vkc] 26)))
  generalize hbb : bareV ⟨4, vnum, vtx, vpa, vpl, vpc, vqa, vql, vqc, vopn, vka, vkl, vkc⟩ true false false false false = b at HB
  have HB2 : Hid (bareV ⟨4, vnum, vtx, vpa, vpl, vpc, vqa, vql, vqc, vopn, vka, vkl, vkc⟩ true false false false false = b) := Lib.hid hbb
  dsimp only at HB
  clear hbb
  clear hps hqs hks hsq hsk HD
  cases b
  · have hR : Hid (rawV ⟨4, vnum, vtx, vpa, vpl, vpc, vqa, vql, vqc, vopn, vka, vkl, vkc⟩ p (q.map (·.1)) (q.all (fun p => rightE n p.2)) (kl.all (rightE n)) = false) := Lib.hid (by simp [rawV, HB2.out])
    go_enter Tryd.func18, Tryd.ntmps18
    go_wp2_with (first | (go_at_call 37; (with_reducible refine HB.out.mono ?_); rintro e w2 ⟨rfl, hb2⟩; have hs2 := hb2.size; have hA : ∀ o, w2.cell? ⟨w.heap.size, o, none⟩ = #[.int .i64 4, .int .i64 vnum, .string vtx, .slice vpa vpl vpc, .slice vqa vql vqc, .bool vopn, .slice vka vkl vkc][o]? := fun o => (hb2.cell (p := ⟨w.heap.size, o, none⟩) hl0).trans (cells_of NA.out o)))
    go_ret
    exact ⟨ret_bool hR.out.symm, hb1.trans (hb2.mono hs1)⟩
  · have hR : Hid (rawV ⟨4, vnum, vtx, vpa, vpl, vpc, vqa, vql, vqc, vopn, vka, vkl, vkc⟩ p (q.map (·.1)) (q.all (fun p => rightE n p.2)) (kl.all (rightE n)) = ((decide (1 ≤ vnum) && decide (vnum ≤ 5)) && vnum != 4)) := Lib.hid (by simp [rawV, HB2.out])
    by_cases hz : 1 ≤ vnum
    · by_cases hy : vnum ≤ 5
      · have hR2 : Hid (rawV ⟨4, vnum, vtx, vpa, vpl, vpc, vqa, vql, vqc, vopn, vka, vkl, vkc⟩ p (q.map (·.1)) (q.all (fun p => rightE n p.2)) (kl.all (rightE n)) = (vnum != 4)) := Lib.hid (by rw [hR.out, decide_eq_true hz, decide_eq_true hy]; rfl)
        generalize hcc : (vnum != 4) = cc at hR2
        go_enter Tryd.func18, Tryd.ntmps18
        go_wp2_with (first | (go_at_call 37; (with_reducible refine HB.out.mono ?_); rintro e w2 ⟨rfl, hb2⟩; have hs2 := hb2.size; have hA : ∀ o, w2.cell? ⟨w.heap.size, o, none⟩ = #[.int .i64 4, .int .i64 vnum, .string vtx, .slice vpa vpl vpc, .slice vqa vql vqc, .bool vopn, .slice vka vkl vkc][o]? := fun o => (hb2.cell (p := ⟨w.heap.size, o, none⟩) hl0).trans (cells_of NA.out o)))
        go_ret
        exact ⟨ret_bool hR2.out.symm, hb1.trans (hb2.mono hs1)⟩
      · have hR2 : Hid (rawV ⟨4, vnum, vtx, vpa, vpl, vpc, vqa, vql, vqc, vopn, vka, vkl, vkc⟩ p (q.map (·.1)) (q.all (fun p => rightE n p.2)) (kl.all (rightE n)) = false) := Lib.hid (by rw [hR.out, decide_eq_false hy, Bool.and_false, Bool.false_and])
        have hy2 : 5 < vnum := by omega
        clear hy
        go_enter Tryd.func18, Tryd.ntmps18
        go_wp2_with (first | (go_at_call 37; (with_reducible refine HB.out.mono ?_); rintro e w2 ⟨rfl, hb2⟩; have hs2 := hb2.size; have hA : ∀ o, w2.cell? ⟨w.heap.size, o, none⟩ = #[.int .i64 4, .int .i64 vnum, .string vtx, .slice vpa vpl vpc, .slice vqa vql vqc, .bool vopn, .slice vka vkl vkc][o]? := fun o => (hb2.cell (p := ⟨w.heap.size, o, none⟩) hl0).trans (cells_of NA.out o)))
        go_ret
        exact ⟨ret_bool hR2.out.symm, hb1.trans (hb2.mono hs1)⟩
    · have hR2 : Hid (rawV ⟨4, vnum, vtx, vpa, vpl, vpc, vqa, vql, vqc, vopn, vka, vkl, vkc⟩ p (q.map (·.1)) (q.all (fun p => rightE n p.2)) (kl.all (rightE n)) = false) := Lib.hid (by rw [hR.out, decide_eq_false hz]; rfl)
      have hz2 : vnum < 1 := by omega
      clear hz
      go_enter Tryd.func18, Tryd.ntmps18
      go_wp2_with (first | (go_at_call 37; (with_reducible refine HB.out.mono ?_); rintro e w2 ⟨rfl, hb2⟩; have hs2 := hb2.size; have hA : ∀ o, w2.cell? ⟨w.heap.size, o, none⟩ = #[.int .i64 4, .int .i64 vnum, .string vtx, .slice vpa vpl vpc, .slice vqa vql vqc, .bool vopn, .slice vka vkl vkc][o]? := fun o => (hb2.cell (p := ⟨w.heap.size, o, none⟩) hl0).trans (cells_of NA.out o)))
      go_ret
      exact ⟨ret_bool hR2.out.symm, hb1.trans (hb2.mono hs1)⟩
set_option maxRecDepth 100000 in
set_option maxHeartbeats 8000000 in
theorem rightR_5 (n B d : Nat) (HD : Hid (RightROk n)) (vnum : Int) (vtx : ByteArray) (vpa : Option Addr) (vpl vpc : Nat) (vqa : Option Addr) (vql vqc : Nat) (vopn : Bool) (vka : Option Addr) (vkl vkc : Nat) (p : List ByteArray) (q : List (ByteArray × Ex n)) (kl : List (Ex n)) (w : World) (hB : B ≤ w.heap.size) (hps : StrsIn w B vpa vpl p) (hqs : PairsIn (ExIn w B n) w B vqa vql q) (hks : KidsIn (ExIn w B n) w B vka vkl kl) (hsq : ∀ i (h : i < q.length), SmallE n d q[i].2) (h200 : q.length ≤ 200) (hsk : ∀ i (h : i < kl.length), SmallE n d kl[i]) : Calls Tryd.prog 18 #[.agg #[.int .i64 5, .int .i64 vnum, .string vtx, .slice vpa vpl vpc, .slice vqa vql vqc, .bool vopn, .slice vka vkl vkc]] w fun e w' => e = .returned (.bool (rawV ⟨5, vnum, vtx, vpa, vpl, vpc, vqa, vql, vqc, vopn, vka, vkl, vkc⟩ p (q.map (·.1)) (q.all (fun p => rightE n p.2)) (kl.all (rightE n)))) ∧ Below w.heap.size w w' := by
  have hu := And.intro HD (And.intro hB (And.intro hps (And.intro hqs (And.intro hks (And.intro hsq (And.intro h200 hsk))))))
  clear hu
  have hb1 := bel1 w (.cells #[.int .i64 5, .int .i64 vnum, .string vtx, .slice vpa vpl vpc, .slice vqa vql vqc, .bool vopn, .slice vka vkl vkc] 26)
  have NA := Lib.hid (new_cells w #[.int .i64 5, .int .i64 vnum, .string vtx, .slice vpa vpl vpc, .slice vqa vql vqc, .bool vopn, .slice vka vkl vkc] 26)
  have hs1 := hb1.size
  have hl0 : w.heap.size < (w.alloc (.cells #[.int .i64 5, .int .i64 vnum, .string vtx, .slice vpa vpl vpc, .slice vqa vql vqc, .bool vopn, .slice vka vkl vkc] 26)).heap.size := by simp
  have HB := Lib.hid (empty_5 ⟨5, vnum, vtx, vpa, vpl, vpc, vqa, vql, vqc, vopn, vka, vkl, vkc⟩ (w.alloc (.cells #[.int .i64 5, .int .i64 vnum, .string vtx, .slice vpa vpl vpc, .slice vqa vql vqc, .bool vopn, .slice vka vkl vkc] 26)))
  generalize hbb : bareV ⟨5, vnum, vtx, vpa, vpl, vpc, vqa, vql, vqc, vopn, vka, vkl, vkc⟩ false false false false false = b at HB
  have HB2 : Hid (bareV ⟨5, vnum, vtx, vpa, vpl, vpc, vqa, vql, vqc, vopn, vka, vkl, vkc⟩ false false false false false = b) := Lib.hid hbb
  dsimp only at HB
  clear hbb
  clear hps hqs hks hsq hsk HD
  have hR : Hid (rawV ⟨5, vnum, vtx, vpa, vpl, vpc, vqa, vql, vqc, vopn, vka, vkl, vkc⟩ p (q.map (·.1)) (q.all (fun p => rightE n p.2)) (kl.all (rightE n)) = b) := Lib.hid (by simp [rawV, HB2.out])
  go_enter Tryd.func18, Tryd.ntmps18
  go_wp2_with (first | (go_at_call 37; (with_reducible refine HB.out.mono ?_); rintro e w2 ⟨rfl, hb2⟩; have hs2 := hb2.size; have hA : ∀ o, w2.cell? ⟨w.heap.size, o, none⟩ = #[.int .i64 5, .int .i64 vnum, .string vtx, .slice vpa vpl vpc, .slice vqa vql vqc, .bool vopn, .slice vka vkl vkc][o]? := fun o => (hb2.cell (p := ⟨w.heap.size, o, none⟩) hl0).trans (cells_of NA.out o)))
  go_ret
  exact ⟨ret_bool hR.out.symm, hb1.trans (hb2.mono hs1)⟩
set_option maxRecDepth 100000 in
set_option maxHeartbeats 8000000 in
theorem rightR_6 (n B d : Nat) (HD : Hid (RightROk n)) (vnum : Int) (vtx : ByteArray) (vpa : Option Addr) (vpl vpc : Nat) (vqa : Option Addr) (vql vqc : Nat) (vopn : Bool) (vka : Option Addr) (vkl vkc : Nat) (p : List ByteArray) (q : List (ByteArray × Ex n)) (kl : List (Ex n)) (w : World) (hB : B ≤ w.heap.size) (hps : StrsIn w B vpa vpl p) (hqs : PairsIn (ExIn w B n) w B vqa vql q) (hks : KidsIn (ExIn w B n) w B vka vkl kl) (hsq : ∀ i (h : i < q.length), SmallE n d q[i].2) (h200 : q.length ≤ 200) (hsk : ∀ i (h : i < kl.length), SmallE n d kl[i]) : Calls Tryd.prog 18 #[.agg #[.int .i64 6, .int .i64 vnum, .string vtx, .slice vpa vpl vpc, .slice vqa vql vqc, .bool vopn, .slice vka vkl vkc]] w fun e w' => e = .returned (.bool (rawV ⟨6, vnum, vtx, vpa, vpl, vpc, vqa, vql, vqc, vopn, vka, vkl, vkc⟩ p (q.map (·.1)) (q.all (fun p => rightE n p.2)) (kl.all (rightE n)))) ∧ Below w.heap.size w w' := by
  have hu := And.intro HD (And.intro hB (And.intro hps (And.intro hqs (And.intro hks (And.intro hsq (And.intro h200 hsk))))))
  clear hu
  have hb1 := bel1 w (.cells #[.int .i64 6, .int .i64 vnum, .string vtx, .slice vpa vpl vpc, .slice vqa vql vqc, .bool vopn, .slice vka vkl vkc] 26)
  have NA := Lib.hid (new_cells w #[.int .i64 6, .int .i64 vnum, .string vtx, .slice vpa vpl vpc, .slice vqa vql vqc, .bool vopn, .slice vka vkl vkc] 26)
  have hs1 := hb1.size
  have hl0 : w.heap.size < (w.alloc (.cells #[.int .i64 6, .int .i64 vnum, .string vtx, .slice vpa vpl vpc, .slice vqa vql vqc, .bool vopn, .slice vka vkl vkc] 26)).heap.size := by simp
  have HB := Lib.hid (empty_5 ⟨6, vnum, vtx, vpa, vpl, vpc, vqa, vql, vqc, vopn, vka, vkl, vkc⟩ (w.alloc (.cells #[.int .i64 6, .int .i64 vnum, .string vtx, .slice vpa vpl vpc, .slice vqa vql vqc, .bool vopn, .slice vka vkl vkc] 26)))
  generalize hbb : bareV ⟨6, vnum, vtx, vpa, vpl, vpc, vqa, vql, vqc, vopn, vka, vkl, vkc⟩ false false false false false = b at HB
  have HB2 : Hid (bareV ⟨6, vnum, vtx, vpa, vpl, vpc, vqa, vql, vqc, vopn, vka, vkl, vkc⟩ false false false false false = b) := Lib.hid hbb
  dsimp only at HB
  clear hbb
  clear hps hqs hks hsq hsk HD
  have hR : Hid (rawV ⟨6, vnum, vtx, vpa, vpl, vpc, vqa, vql, vqc, vopn, vka, vkl, vkc⟩ p (q.map (·.1)) (q.all (fun p => rightE n p.2)) (kl.all (rightE n)) = b) := Lib.hid (by simp [rawV, HB2.out])
  go_enter Tryd.func18, Tryd.ntmps18
  go_wp2_with (first | (go_at_call 37; (with_reducible refine HB.out.mono ?_); rintro e w2 ⟨rfl, hb2⟩; have hs2 := hb2.size; have hA : ∀ o, w2.cell? ⟨w.heap.size, o, none⟩ = #[.int .i64 6, .int .i64 vnum, .string vtx, .slice vpa vpl vpc, .slice vqa vql vqc, .bool vopn, .slice vka vkl vkc][o]? := fun o => (hb2.cell (p := ⟨w.heap.size, o, none⟩) hl0).trans (cells_of NA.out o)))
  go_ret
  exact ⟨ret_bool hR.out.symm, hb1.trans (hb2.mono hs1)⟩
set_option maxRecDepth 100000 in
set_option maxHeartbeats 8000000 in
theorem rightR_9 (n B d : Nat) (HD : Hid (RightROk n)) (vnum : Int) (vtx : ByteArray) (vpa : Option Addr) (vpl vpc : Nat) (vqa : Option Addr) (vql vqc : Nat) (vopn : Bool) (vka : Option Addr) (vkl vkc : Nat) (p : List ByteArray) (q : List (ByteArray × Ex n)) (kl : List (Ex n)) (w : World) (hB : B ≤ w.heap.size) (hps : StrsIn w B vpa vpl p) (hqs : PairsIn (ExIn w B n) w B vqa vql q) (hks : KidsIn (ExIn w B n) w B vka vkl kl) (hsq : ∀ i (h : i < q.length), SmallE n d q[i].2) (h200 : q.length ≤ 200) (hsk : ∀ i (h : i < kl.length), SmallE n d kl[i]) : Calls Tryd.prog 18 #[.agg #[.int .i64 9, .int .i64 vnum, .string vtx, .slice vpa vpl vpc, .slice vqa vql vqc, .bool vopn, .slice vka vkl vkc]] w fun e w' => e = .returned (.bool (rawV ⟨9, vnum, vtx, vpa, vpl, vpc, vqa, vql, vqc, vopn, vka, vkl, vkc⟩ p (q.map (·.1)) (q.all (fun p => rightE n p.2)) (kl.all (rightE n)))) ∧ Below w.heap.size w w' := by
  have hu := And.intro HD (And.intro hB (And.intro hps (And.intro hqs (And.intro hks (And.intro hsq (And.intro h200 hsk))))))
  clear hu
  have hb1 := bel1 w (.cells #[.int .i64 9, .int .i64 vnum, .string vtx, .slice vpa vpl vpc, .slice vqa vql vqc, .bool vopn, .slice vka vkl vkc] 26)
  have NA := Lib.hid (new_cells w #[.int .i64 9, .int .i64 vnum, .string vtx, .slice vpa vpl vpc, .slice vqa vql vqc, .bool vopn, .slice vka vkl vkc] 26)
  have hs1 := hb1.size
  have hl0 : w.heap.size < (w.alloc (.cells #[.int .i64 9, .int .i64 vnum, .string vtx, .slice vpa vpl vpc, .slice vqa vql vqc, .bool vopn, .slice vka vkl vkc] 26)).heap.size := by simp
  have HB := Lib.hid (empty_2 ⟨9, vnum, vtx, vpa, vpl, vpc, vqa, vql, vqc, vopn, vka, vkl, vkc⟩ (w.alloc (.cells #[.int .i64 9, .int .i64 vnum, .string vtx, .slice vpa vpl vpc, .slice vqa vql vqc, .bool vopn, .slice vka vkl vkc] 26)))
  generalize hbb : bareV ⟨9, vnum, vtx, vpa, vpl, vpc, vqa, vql, vqc, vopn, vka, vkl, vkc⟩ false false true false false = b at HB
  have HB2 : Hid (bareV ⟨9, vnum, vtx, vpa, vpl, vpc, vqa, vql, vqc, vopn, vka, vkl, vkc⟩ false false true false false = b) := Lib.hid hbb
  dsimp only at HB
  clear hbb
  generalize hni : path p = c
  have HN := Lib.hid hni
  have HI : Hid (∀ W, Below w.heap.size w W → Calls Tryd.prog 39 #[.slice vpa vpl vpc] W fun e w' => e = .returned (.bool c) ∧ W = w') := Lib.hid (fun W h => by
    have h1 := hps.kept (h.mono hB)
    rw [hps.1] at h1 ⊢
    rw [← hni]
    exact pathR_any B vpa vpc p W h1)
  clear hni
  clear hps hqs hks hsq hsk HD
  cases b
  · have hR : Hid (rawV ⟨9, vnum, vtx, vpa, vpl, vpc, vqa, vql, vqc, vopn, vka, vkl, vkc⟩ p (q.map (·.1)) (q.all (fun p => rightE n p.2)) (kl.all (rightE n)) = false) := Lib.hid (by simp [rawV, HB2.out])
    go_enter Tryd.func18, Tryd.ntmps18
    go_wp2_with (first | (go_at_call 37; (with_reducible refine HB.out.mono ?_); rintro e w2 ⟨rfl, hb2⟩; have hs2 := hb2.size; have hA : ∀ o, w2.cell? ⟨w.heap.size, o, none⟩ = #[.int .i64 9, .int .i64 vnum, .string vtx, .slice vpa vpl vpc, .slice vqa vql vqc, .bool vopn, .slice vka vkl vkc][o]? := fun o => (hb2.cell (p := ⟨w.heap.size, o, none⟩) hl0).trans (cells_of NA.out o)))
    go_ret
    exact ⟨ret_bool hR.out.symm, hb1.trans (hb2.mono hs1)⟩
  · have hR : Hid (rawV ⟨9, vnum, vtx, vpa, vpl, vpc, vqa, vql, vqc, vopn, vka, vkl, vkc⟩ p (q.map (·.1)) (q.all (fun p => rightE n p.2)) (kl.all (rightE n)) = c) := Lib.hid (by simp [rawV, HB2.out, HN.out])
    go_enter Tryd.func18, Tryd.ntmps18
    go_wp2_with (first | (go_at_call 37; (with_reducible refine HB.out.mono ?_); rintro e w2 ⟨rfl, hb2⟩; have hs2 := hb2.size; have hA : ∀ o, w2.cell? ⟨w.heap.size, o, none⟩ = #[.int .i64 9, .int .i64 vnum, .string vtx, .slice vpa vpl vpc, .slice vqa vql vqc, .bool vopn, .slice vka vkl vkc][o]? := fun o => (hb2.cell (p := ⟨w.heap.size, o, none⟩) hl0).trans (cells_of NA.out o)) | (go_at_call 39; (with_reducible refine (HI.out _ (hb1.trans (hb2.mono hs1))).mono ?_); rintro e w3 ⟨rfl, rfl⟩))
    go_ret
    exact ⟨ret_bool hR.out.symm, hb1.trans (hb2.mono hs1)⟩
set_option maxRecDepth 100000 in
set_option maxHeartbeats 8000000 in
theorem rightR_10 (n B d : Nat) (HD : Hid (RightROk n)) (vnum : Int) (vtx : ByteArray) (vpa : Option Addr) (vpl vpc : Nat) (vqa : Option Addr) (vql vqc : Nat) (vopn : Bool) (vka : Option Addr) (vkl vkc : Nat) (p : List ByteArray) (q : List (ByteArray × Ex n)) (kl : List (Ex n)) (w : World) (hB : B ≤ w.heap.size) (hps : StrsIn w B vpa vpl p) (hqs : PairsIn (ExIn w B n) w B vqa vql q) (hks : KidsIn (ExIn w B n) w B vka vkl kl) (hsq : ∀ i (h : i < q.length), SmallE n d q[i].2) (h200 : q.length ≤ 200) (hsk : ∀ i (h : i < kl.length), SmallE n d kl[i]) : Calls Tryd.prog 18 #[.agg #[.int .i64 10, .int .i64 vnum, .string vtx, .slice vpa vpl vpc, .slice vqa vql vqc, .bool vopn, .slice vka vkl vkc]] w fun e w' => e = .returned (.bool (rawV ⟨10, vnum, vtx, vpa, vpl, vpc, vqa, vql, vqc, vopn, vka, vkl, vkc⟩ p (q.map (·.1)) (q.all (fun p => rightE n p.2)) (kl.all (rightE n)))) ∧ Below w.heap.size w w' := by
  have hu := And.intro HD (And.intro hB (And.intro hps (And.intro hqs (And.intro hks (And.intro hsq (And.intro h200 hsk))))))
  clear hu
  have hb1 := bel1 w (.cells #[.int .i64 10, .int .i64 vnum, .string vtx, .slice vpa vpl vpc, .slice vqa vql vqc, .bool vopn, .slice vka vkl vkc] 26)
  have NA := Lib.hid (new_cells w #[.int .i64 10, .int .i64 vnum, .string vtx, .slice vpa vpl vpc, .slice vqa vql vqc, .bool vopn, .slice vka vkl vkc] 26)
  have hs1 := hb1.size
  have hl0 : w.heap.size < (w.alloc (.cells #[.int .i64 10, .int .i64 vnum, .string vtx, .slice vpa vpl vpc, .slice vqa vql vqc, .bool vopn, .slice vka vkl vkc] 26)).heap.size := by simp
  have HB := Lib.hid (empty_3 ⟨10, vnum, vtx, vpa, vpl, vpc, vqa, vql, vqc, vopn, vka, vkl, vkc⟩ (w.alloc (.cells #[.int .i64 10, .int .i64 vnum, .string vtx, .slice vpa vpl vpc, .slice vqa vql vqc, .bool vopn, .slice vka vkl vkc] 26)))
  generalize hbb : bareV ⟨10, vnum, vtx, vpa, vpl, vpc, vqa, vql, vqc, vopn, vka, vkl, vkc⟩ false false false true false = b at HB
  have HB2 : Hid (bareV ⟨10, vnum, vtx, vpa, vpl, vpc, vqa, vql, vqc, vopn, vka, vkl, vkc⟩ false false false true false = b) := Lib.hid hbb
  dsimp only at HB
  clear hbb
  generalize hni : (q.all (fun p => rightE n p.2) && (decide ((vql : Int) ≤ 32) && rising (q.map (·.1)))) = c
  have HN := Lib.hid hni
  have HI : Hid (∀ W, Below w.heap.size w W → Calls Tryd.prog 40 #[.slice vqa vql vqc] W fun e w' => e = .returned (.bool c) ∧ Below W.heap.size W w') := Lib.hid (fun W h => by
    rw [← hni]
    exact pairsR_any n HD W B vqa vql vqc q d (by have := h.size; omega) hsq h200 (PairsIn.kept hqs h hB))
  clear hni
  clear hps hqs hks hsq hsk HD
  cases b
  · have hR : Hid (rawV ⟨10, vnum, vtx, vpa, vpl, vpc, vqa, vql, vqc, vopn, vka, vkl, vkc⟩ p (q.map (·.1)) (q.all (fun p => rightE n p.2)) (kl.all (rightE n)) = false) := Lib.hid (by simp [rawV, HB2.out])
    go_enter Tryd.func18, Tryd.ntmps18
    go_wp2_with (first | (go_at_call 37; (with_reducible refine HB.out.mono ?_); rintro e w2 ⟨rfl, hb2⟩; have hs2 := hb2.size; have hA : ∀ o, w2.cell? ⟨w.heap.size, o, none⟩ = #[.int .i64 10, .int .i64 vnum, .string vtx, .slice vpa vpl vpc, .slice vqa vql vqc, .bool vopn, .slice vka vkl vkc][o]? := fun o => (hb2.cell (p := ⟨w.heap.size, o, none⟩) hl0).trans (cells_of NA.out o)))
    go_ret
    exact ⟨ret_bool hR.out.symm, hb1.trans (hb2.mono hs1)⟩
  · have hR : Hid (rawV ⟨10, vnum, vtx, vpa, vpl, vpc, vqa, vql, vqc, vopn, vka, vkl, vkc⟩ p (q.map (·.1)) (q.all (fun p => rightE n p.2)) (kl.all (rightE n)) = c) := Lib.hid (by rw [← HN.out]; simp [rawV, HB2.out])
    go_enter Tryd.func18, Tryd.ntmps18
    go_wp2_with (first | (go_at_call 37; (with_reducible refine HB.out.mono ?_); rintro e w2 ⟨rfl, hb2⟩; have hs2 := hb2.size; have hA : ∀ o, w2.cell? ⟨w.heap.size, o, none⟩ = #[.int .i64 10, .int .i64 vnum, .string vtx, .slice vpa vpl vpc, .slice vqa vql vqc, .bool vopn, .slice vka vkl vkc][o]? := fun o => (hb2.cell (p := ⟨w.heap.size, o, none⟩) hl0).trans (cells_of NA.out o)) | (go_at_call 40; (with_reducible refine (HI.out _ (hb1.trans (hb2.mono hs1))).mono ?_); rintro e w3 ⟨rfl, hb3⟩))
    go_ret
    exact ⟨ret_bool hR.out.symm, hb1.trans ((hb2.trans (hb3.mono hs2)).mono hs1)⟩
set_option maxRecDepth 100000 in
set_option maxHeartbeats 8000000 in
theorem rightR_11 (n B d : Nat) (HD : Hid (RightROk n)) (vnum : Int) (vtx : ByteArray) (vpa : Option Addr) (vpl vpc : Nat) (vqa : Option Addr) (vql vqc : Nat) (vopn : Bool) (vka : Option Addr) (vkl vkc : Nat) (p : List ByteArray) (q : List (ByteArray × Ex n)) (kl : List (Ex n)) (w : World) (hB : B ≤ w.heap.size) (hps : StrsIn w B vpa vpl p) (hqs : PairsIn (ExIn w B n) w B vqa vql q) (hks : KidsIn (ExIn w B n) w B vka vkl kl) (hsq : ∀ i (h : i < q.length), SmallE n d q[i].2) (h200 : q.length ≤ 200) (hsk : ∀ i (h : i < kl.length), SmallE n d kl[i]) : Calls Tryd.prog 18 #[.agg #[.int .i64 11, .int .i64 vnum, .string vtx, .slice vpa vpl vpc, .slice vqa vql vqc, .bool vopn, .slice vka vkl vkc]] w fun e w' => e = .returned (.bool (rawV ⟨11, vnum, vtx, vpa, vpl, vpc, vqa, vql, vqc, vopn, vka, vkl, vkc⟩ p (q.map (·.1)) (q.all (fun p => rightE n p.2)) (kl.all (rightE n)))) ∧ Below w.heap.size w w' := by
  have hu := And.intro HD (And.intro hB (And.intro hps (And.intro hqs (And.intro hks (And.intro hsq (And.intro h200 hsk))))))
  clear hu
  have hb1 := bel1 w (.cells #[.int .i64 11, .int .i64 vnum, .string vtx, .slice vpa vpl vpc, .slice vqa vql vqc, .bool vopn, .slice vka vkl vkc] 26)
  have NA := Lib.hid (new_cells w #[.int .i64 11, .int .i64 vnum, .string vtx, .slice vpa vpl vpc, .slice vqa vql vqc, .bool vopn, .slice vka vkl vkc] 26)
  have hs1 := hb1.size
  have hl0 : w.heap.size < (w.alloc (.cells #[.int .i64 11, .int .i64 vnum, .string vtx, .slice vpa vpl vpc, .slice vqa vql vqc, .bool vopn, .slice vka vkl vkc] 26)).heap.size := by simp
  have HB := Lib.hid (empty_4 ⟨11, vnum, vtx, vpa, vpl, vpc, vqa, vql, vqc, vopn, vka, vkl, vkc⟩ (w.alloc (.cells #[.int .i64 11, .int .i64 vnum, .string vtx, .slice vpa vpl vpc, .slice vqa vql vqc, .bool vopn, .slice vka vkl vkc] 26)))
  generalize hbb : bareV ⟨11, vnum, vtx, vpa, vpl, vpc, vqa, vql, vqc, vopn, vka, vkl, vkc⟩ false false false false true = b at HB
  have HB2 : Hid (bareV ⟨11, vnum, vtx, vpa, vpl, vpc, vqa, vql, vqc, vopn, vka, vkl, vkc⟩ false false false false true = b) := Lib.hid hbb
  dsimp only at HB
  clear hbb
  generalize hni : (kl.all (rightE n) && (decide ((2 : Int) ≤ (vkl : Int)) && decide ((vkl : Int) ≤ 32))) = c
  have HN := Lib.hid hni
  have HI : Hid (∀ W, Below w.heap.size w W → Calls Tryd.prog 41 #[.slice vka vkl vkc, .int .i64 2, .int .i64 32] W fun e w' => e = .returned (.bool c) ∧ Below W.heap.size W w') := Lib.hid (fun W h => by
    rw [← hni]
    exact kidsR_any n HD W B vka vkl vkc 2 32 kl d (by have := h.size; omega) hsk (KidsIn.kept hks h hB))
  clear hni
  clear hps hqs hks hsq hsk HD
  cases b
  · have hR : Hid (rawV ⟨11, vnum, vtx, vpa, vpl, vpc, vqa, vql, vqc, vopn, vka, vkl, vkc⟩ p (q.map (·.1)) (q.all (fun p => rightE n p.2)) (kl.all (rightE n)) = false) := Lib.hid (by simp [rawV, HB2.out])
    go_enter Tryd.func18, Tryd.ntmps18
    go_wp2_with (first | (go_at_call 37; (with_reducible refine HB.out.mono ?_); rintro e w2 ⟨rfl, hb2⟩; have hs2 := hb2.size; have hA : ∀ o, w2.cell? ⟨w.heap.size, o, none⟩ = #[.int .i64 11, .int .i64 vnum, .string vtx, .slice vpa vpl vpc, .slice vqa vql vqc, .bool vopn, .slice vka vkl vkc][o]? := fun o => (hb2.cell (p := ⟨w.heap.size, o, none⟩) hl0).trans (cells_of NA.out o)))
    go_ret
    exact ⟨ret_bool hR.out.symm, hb1.trans (hb2.mono hs1)⟩
  · have hR : Hid (rawV ⟨11, vnum, vtx, vpa, vpl, vpc, vqa, vql, vqc, vopn, vka, vkl, vkc⟩ p (q.map (·.1)) (q.all (fun p => rightE n p.2)) (kl.all (rightE n)) = c) := Lib.hid (by rw [← HN.out]; simp [rawV, HB2.out])
    go_enter Tryd.func18, Tryd.ntmps18
    go_wp2_with (first | (go_at_call 37; (with_reducible refine HB.out.mono ?_); rintro e w2 ⟨rfl, hb2⟩; have hs2 := hb2.size; have hA : ∀ o, w2.cell? ⟨w.heap.size, o, none⟩ = #[.int .i64 11, .int .i64 vnum, .string vtx, .slice vpa vpl vpc, .slice vqa vql vqc, .bool vopn, .slice vka vkl vkc][o]? := fun o => (hb2.cell (p := ⟨w.heap.size, o, none⟩) hl0).trans (cells_of NA.out o)) | (go_at_call 41; (with_reducible refine (HI.out _ (hb1.trans (hb2.mono hs1))).mono ?_); rintro e w3 ⟨rfl, hb3⟩))
    go_ret
    exact ⟨ret_bool hR.out.symm, hb1.trans ((hb2.trans (hb3.mono hs2)).mono hs1)⟩
set_option maxRecDepth 100000 in
set_option maxHeartbeats 8000000 in
theorem rightR_12 (n B d : Nat) (HD : Hid (RightROk n)) (vnum : Int) (vtx : ByteArray) (vpa : Option Addr) (vpl vpc : Nat) (vqa : Option Addr) (vql vqc : Nat) (vopn : Bool) (vka : Option Addr) (vkl vkc : Nat) (p : List ByteArray) (q : List (ByteArray × Ex n)) (kl : List (Ex n)) (w : World) (hB : B ≤ w.heap.size) (hps : StrsIn w B vpa vpl p) (hqs : PairsIn (ExIn w B n) w B vqa vql q) (hks : KidsIn (ExIn w B n) w B vka vkl kl) (hsq : ∀ i (h : i < q.length), SmallE n d q[i].2) (h200 : q.length ≤ 200) (hsk : ∀ i (h : i < kl.length), SmallE n d kl[i]) : Calls Tryd.prog 18 #[.agg #[.int .i64 12, .int .i64 vnum, .string vtx, .slice vpa vpl vpc, .slice vqa vql vqc, .bool vopn, .slice vka vkl vkc]] w fun e w' => e = .returned (.bool (rawV ⟨12, vnum, vtx, vpa, vpl, vpc, vqa, vql, vqc, vopn, vka, vkl, vkc⟩ p (q.map (·.1)) (q.all (fun p => rightE n p.2)) (kl.all (rightE n)))) ∧ Below w.heap.size w w' := by
  have hu := And.intro HD (And.intro hB (And.intro hps (And.intro hqs (And.intro hks (And.intro hsq (And.intro h200 hsk))))))
  clear hu
  have hb1 := bel1 w (.cells #[.int .i64 12, .int .i64 vnum, .string vtx, .slice vpa vpl vpc, .slice vqa vql vqc, .bool vopn, .slice vka vkl vkc] 26)
  have NA := Lib.hid (new_cells w #[.int .i64 12, .int .i64 vnum, .string vtx, .slice vpa vpl vpc, .slice vqa vql vqc, .bool vopn, .slice vka vkl vkc] 26)
  have hs1 := hb1.size
  have hl0 : w.heap.size < (w.alloc (.cells #[.int .i64 12, .int .i64 vnum, .string vtx, .slice vpa vpl vpc, .slice vqa vql vqc, .bool vopn, .slice vka vkl vkc] 26)).heap.size := by simp
  have HB := Lib.hid (empty_4 ⟨12, vnum, vtx, vpa, vpl, vpc, vqa, vql, vqc, vopn, vka, vkl, vkc⟩ (w.alloc (.cells #[.int .i64 12, .int .i64 vnum, .string vtx, .slice vpa vpl vpc, .slice vqa vql vqc, .bool vopn, .slice vka vkl vkc] 26)))
  generalize hbb : bareV ⟨12, vnum, vtx, vpa, vpl, vpc, vqa, vql, vqc, vopn, vka, vkl, vkc⟩ false false false false true = b at HB
  have HB2 : Hid (bareV ⟨12, vnum, vtx, vpa, vpl, vpc, vqa, vql, vqc, vopn, vka, vkl, vkc⟩ false false false false true = b) := Lib.hid hbb
  dsimp only at HB
  clear hbb
  generalize hni : (kl.all (rightE n) && (decide ((2 : Int) ≤ (vkl : Int)) && decide ((vkl : Int) ≤ 32))) = c
  have HN := Lib.hid hni
  have HI : Hid (∀ W, Below w.heap.size w W → Calls Tryd.prog 41 #[.slice vka vkl vkc, .int .i64 2, .int .i64 32] W fun e w' => e = .returned (.bool c) ∧ Below W.heap.size W w') := Lib.hid (fun W h => by
    rw [← hni]
    exact kidsR_any n HD W B vka vkl vkc 2 32 kl d (by have := h.size; omega) hsk (KidsIn.kept hks h hB))
  clear hni
  clear hps hqs hks hsq hsk HD
  cases b
  · have hR : Hid (rawV ⟨12, vnum, vtx, vpa, vpl, vpc, vqa, vql, vqc, vopn, vka, vkl, vkc⟩ p (q.map (·.1)) (q.all (fun p => rightE n p.2)) (kl.all (rightE n)) = false) := Lib.hid (by simp [rawV, HB2.out])
    go_enter Tryd.func18, Tryd.ntmps18
    go_wp2_with (first | (go_at_call 37; (with_reducible refine HB.out.mono ?_); rintro e w2 ⟨rfl, hb2⟩; have hs2 := hb2.size; have hA : ∀ o, w2.cell? ⟨w.heap.size, o, none⟩ = #[.int .i64 12, .int .i64 vnum, .string vtx, .slice vpa vpl vpc, .slice vqa vql vqc, .bool vopn, .slice vka vkl vkc][o]? := fun o => (hb2.cell (p := ⟨w.heap.size, o, none⟩) hl0).trans (cells_of NA.out o)))
    go_ret
    exact ⟨ret_bool hR.out.symm, hb1.trans (hb2.mono hs1)⟩
  · have hR : Hid (rawV ⟨12, vnum, vtx, vpa, vpl, vpc, vqa, vql, vqc, vopn, vka, vkl, vkc⟩ p (q.map (·.1)) (q.all (fun p => rightE n p.2)) (kl.all (rightE n)) = c) := Lib.hid (by rw [← HN.out]; simp [rawV, HB2.out])
    go_enter Tryd.func18, Tryd.ntmps18
    go_wp2_with (first | (go_at_call 37; (with_reducible refine HB.out.mono ?_); rintro e w2 ⟨rfl, hb2⟩; have hs2 := hb2.size; have hA : ∀ o, w2.cell? ⟨w.heap.size, o, none⟩ = #[.int .i64 12, .int .i64 vnum, .string vtx, .slice vpa vpl vpc, .slice vqa vql vqc, .bool vopn, .slice vka vkl vkc][o]? := fun o => (hb2.cell (p := ⟨w.heap.size, o, none⟩) hl0).trans (cells_of NA.out o)) | (go_at_call 41; (with_reducible refine (HI.out _ (hb1.trans (hb2.mono hs1))).mono ?_); rintro e w3 ⟨rfl, hb3⟩))
    go_ret
    exact ⟨ret_bool hR.out.symm, hb1.trans ((hb2.trans (hb3.mono hs2)).mono hs1)⟩
set_option maxRecDepth 100000 in
set_option maxHeartbeats 8000000 in
theorem rightR_13 (n B d : Nat) (HD : Hid (RightROk n)) (vnum : Int) (vtx : ByteArray) (vpa : Option Addr) (vpl vpc : Nat) (vqa : Option Addr) (vql vqc : Nat) (vopn : Bool) (vka : Option Addr) (vkl vkc : Nat) (p : List ByteArray) (q : List (ByteArray × Ex n)) (kl : List (Ex n)) (w : World) (hB : B ≤ w.heap.size) (hps : StrsIn w B vpa vpl p) (hqs : PairsIn (ExIn w B n) w B vqa vql q) (hks : KidsIn (ExIn w B n) w B vka vkl kl) (hsq : ∀ i (h : i < q.length), SmallE n d q[i].2) (h200 : q.length ≤ 200) (hsk : ∀ i (h : i < kl.length), SmallE n d kl[i]) : Calls Tryd.prog 18 #[.agg #[.int .i64 13, .int .i64 vnum, .string vtx, .slice vpa vpl vpc, .slice vqa vql vqc, .bool vopn, .slice vka vkl vkc]] w fun e w' => e = .returned (.bool (rawV ⟨13, vnum, vtx, vpa, vpl, vpc, vqa, vql, vqc, vopn, vka, vkl, vkc⟩ p (q.map (·.1)) (q.all (fun p => rightE n p.2)) (kl.all (rightE n)))) ∧ Below w.heap.size w w' := by
  have hu := And.intro HD (And.intro hB (And.intro hps (And.intro hqs (And.intro hks (And.intro hsq (And.intro h200 hsk))))))
  clear hu
  have hb1 := bel1 w (.cells #[.int .i64 13, .int .i64 vnum, .string vtx, .slice vpa vpl vpc, .slice vqa vql vqc, .bool vopn, .slice vka vkl vkc] 26)
  have NA := Lib.hid (new_cells w #[.int .i64 13, .int .i64 vnum, .string vtx, .slice vpa vpl vpc, .slice vqa vql vqc, .bool vopn, .slice vka vkl vkc] 26)
  have hs1 := hb1.size
  have hl0 : w.heap.size < (w.alloc (.cells #[.int .i64 13, .int .i64 vnum, .string vtx, .slice vpa vpl vpc, .slice vqa vql vqc, .bool vopn, .slice vka vkl vkc] 26)).heap.size := by simp
  have HB := Lib.hid (empty_4 ⟨13, vnum, vtx, vpa, vpl, vpc, vqa, vql, vqc, vopn, vka, vkl, vkc⟩ (w.alloc (.cells #[.int .i64 13, .int .i64 vnum, .string vtx, .slice vpa vpl vpc, .slice vqa vql vqc, .bool vopn, .slice vka vkl vkc] 26)))
  generalize hbb : bareV ⟨13, vnum, vtx, vpa, vpl, vpc, vqa, vql, vqc, vopn, vka, vkl, vkc⟩ false false false false true = b at HB
  have HB2 : Hid (bareV ⟨13, vnum, vtx, vpa, vpl, vpc, vqa, vql, vqc, vopn, vka, vkl, vkc⟩ false false false false true = b) := Lib.hid hbb
  dsimp only at HB
  clear hbb
  generalize hni : (kl.all (rightE n) && (decide ((2 : Int) ≤ (vkl : Int)) && decide ((vkl : Int) ≤ 2))) = c
  have HN := Lib.hid hni
  have HI : Hid (∀ W, Below w.heap.size w W → Calls Tryd.prog 41 #[.slice vka vkl vkc, .int .i64 2, .int .i64 2] W fun e w' => e = .returned (.bool c) ∧ Below W.heap.size W w') := Lib.hid (fun W h => by
    rw [← hni]
    exact kidsR_any n HD W B vka vkl vkc 2 2 kl d (by have := h.size; omega) hsk (KidsIn.kept hks h hB))
  clear hni
  clear hps hqs hks hsq hsk HD
  cases b
  · have hR : Hid (rawV ⟨13, vnum, vtx, vpa, vpl, vpc, vqa, vql, vqc, vopn, vka, vkl, vkc⟩ p (q.map (·.1)) (q.all (fun p => rightE n p.2)) (kl.all (rightE n)) = false) := Lib.hid (by simp [rawV, HB2.out])
    go_enter Tryd.func18, Tryd.ntmps18
    go_wp2_with (first | (go_at_call 37; (with_reducible refine HB.out.mono ?_); rintro e w2 ⟨rfl, hb2⟩; have hs2 := hb2.size; have hA : ∀ o, w2.cell? ⟨w.heap.size, o, none⟩ = #[.int .i64 13, .int .i64 vnum, .string vtx, .slice vpa vpl vpc, .slice vqa vql vqc, .bool vopn, .slice vka vkl vkc][o]? := fun o => (hb2.cell (p := ⟨w.heap.size, o, none⟩) hl0).trans (cells_of NA.out o)))
    go_ret
    exact ⟨ret_bool hR.out.symm, hb1.trans (hb2.mono hs1)⟩
  · have hR : Hid (rawV ⟨13, vnum, vtx, vpa, vpl, vpc, vqa, vql, vqc, vopn, vka, vkl, vkc⟩ p (q.map (·.1)) (q.all (fun p => rightE n p.2)) (kl.all (rightE n)) = c) := Lib.hid (by rw [← HN.out]; simp [rawV, HB2.out])
    go_enter Tryd.func18, Tryd.ntmps18
    go_wp2_with (first | (go_at_call 37; (with_reducible refine HB.out.mono ?_); rintro e w2 ⟨rfl, hb2⟩; have hs2 := hb2.size; have hA : ∀ o, w2.cell? ⟨w.heap.size, o, none⟩ = #[.int .i64 13, .int .i64 vnum, .string vtx, .slice vpa vpl vpc, .slice vqa vql vqc, .bool vopn, .slice vka vkl vkc][o]? := fun o => (hb2.cell (p := ⟨w.heap.size, o, none⟩) hl0).trans (cells_of NA.out o)) | (go_at_call 41; (with_reducible refine (HI.out _ (hb1.trans (hb2.mono hs1))).mono ?_); rintro e w3 ⟨rfl, hb3⟩))
    go_ret
    exact ⟨ret_bool hR.out.symm, hb1.trans ((hb2.trans (hb3.mono hs2)).mono hs1)⟩
set_option maxRecDepth 100000 in
set_option maxHeartbeats 8000000 in
theorem rightR_14 (n B d : Nat) (HD : Hid (RightROk n)) (vnum : Int) (vtx : ByteArray) (vpa : Option Addr) (vpl vpc : Nat) (vqa : Option Addr) (vql vqc : Nat) (vopn : Bool) (vka : Option Addr) (vkl vkc : Nat) (p : List ByteArray) (q : List (ByteArray × Ex n)) (kl : List (Ex n)) (w : World) (hB : B ≤ w.heap.size) (hps : StrsIn w B vpa vpl p) (hqs : PairsIn (ExIn w B n) w B vqa vql q) (hks : KidsIn (ExIn w B n) w B vka vkl kl) (hsq : ∀ i (h : i < q.length), SmallE n d q[i].2) (h200 : q.length ≤ 200) (hsk : ∀ i (h : i < kl.length), SmallE n d kl[i]) : Calls Tryd.prog 18 #[.agg #[.int .i64 14, .int .i64 vnum, .string vtx, .slice vpa vpl vpc, .slice vqa vql vqc, .bool vopn, .slice vka vkl vkc]] w fun e w' => e = .returned (.bool (rawV ⟨14, vnum, vtx, vpa, vpl, vpc, vqa, vql, vqc, vopn, vka, vkl, vkc⟩ p (q.map (·.1)) (q.all (fun p => rightE n p.2)) (kl.all (rightE n)))) ∧ Below w.heap.size w w' := by
  have hu := And.intro HD (And.intro hB (And.intro hps (And.intro hqs (And.intro hks (And.intro hsq (And.intro h200 hsk))))))
  clear hu
  have hb1 := bel1 w (.cells #[.int .i64 14, .int .i64 vnum, .string vtx, .slice vpa vpl vpc, .slice vqa vql vqc, .bool vopn, .slice vka vkl vkc] 26)
  have NA := Lib.hid (new_cells w #[.int .i64 14, .int .i64 vnum, .string vtx, .slice vpa vpl vpc, .slice vqa vql vqc, .bool vopn, .slice vka vkl vkc] 26)
  have hs1 := hb1.size
  have hl0 : w.heap.size < (w.alloc (.cells #[.int .i64 14, .int .i64 vnum, .string vtx, .slice vpa vpl vpc, .slice vqa vql vqc, .bool vopn, .slice vka vkl vkc] 26)).heap.size := by simp
  have HB := Lib.hid (empty_4 ⟨14, vnum, vtx, vpa, vpl, vpc, vqa, vql, vqc, vopn, vka, vkl, vkc⟩ (w.alloc (.cells #[.int .i64 14, .int .i64 vnum, .string vtx, .slice vpa vpl vpc, .slice vqa vql vqc, .bool vopn, .slice vka vkl vkc] 26)))
  generalize hbb : bareV ⟨14, vnum, vtx, vpa, vpl, vpc, vqa, vql, vqc, vopn, vka, vkl, vkc⟩ false false false false true = b at HB
  have HB2 : Hid (bareV ⟨14, vnum, vtx, vpa, vpl, vpc, vqa, vql, vqc, vopn, vka, vkl, vkc⟩ false false false false true = b) := Lib.hid hbb
  dsimp only at HB
  clear hbb
  generalize hni : (kl.all (rightE n) && (decide ((2 : Int) ≤ (vkl : Int)) && decide ((vkl : Int) ≤ 2))) = c
  have HN := Lib.hid hni
  have HI : Hid (∀ W, Below w.heap.size w W → Calls Tryd.prog 41 #[.slice vka vkl vkc, .int .i64 2, .int .i64 2] W fun e w' => e = .returned (.bool c) ∧ Below W.heap.size W w') := Lib.hid (fun W h => by
    rw [← hni]
    exact kidsR_any n HD W B vka vkl vkc 2 2 kl d (by have := h.size; omega) hsk (KidsIn.kept hks h hB))
  clear hni
  clear hps hqs hks hsq hsk HD
  cases b
  · have hR : Hid (rawV ⟨14, vnum, vtx, vpa, vpl, vpc, vqa, vql, vqc, vopn, vka, vkl, vkc⟩ p (q.map (·.1)) (q.all (fun p => rightE n p.2)) (kl.all (rightE n)) = false) := Lib.hid (by simp [rawV, HB2.out])
    go_enter Tryd.func18, Tryd.ntmps18
    go_wp2_with (first | (go_at_call 37; (with_reducible refine HB.out.mono ?_); rintro e w2 ⟨rfl, hb2⟩; have hs2 := hb2.size; have hA : ∀ o, w2.cell? ⟨w.heap.size, o, none⟩ = #[.int .i64 14, .int .i64 vnum, .string vtx, .slice vpa vpl vpc, .slice vqa vql vqc, .bool vopn, .slice vka vkl vkc][o]? := fun o => (hb2.cell (p := ⟨w.heap.size, o, none⟩) hl0).trans (cells_of NA.out o)))
    go_ret
    exact ⟨ret_bool hR.out.symm, hb1.trans (hb2.mono hs1)⟩
  · have hR : Hid (rawV ⟨14, vnum, vtx, vpa, vpl, vpc, vqa, vql, vqc, vopn, vka, vkl, vkc⟩ p (q.map (·.1)) (q.all (fun p => rightE n p.2)) (kl.all (rightE n)) = c) := Lib.hid (by rw [← HN.out]; simp [rawV, HB2.out])
    go_enter Tryd.func18, Tryd.ntmps18
    go_wp2_with (first | (go_at_call 37; (with_reducible refine HB.out.mono ?_); rintro e w2 ⟨rfl, hb2⟩; have hs2 := hb2.size; have hA : ∀ o, w2.cell? ⟨w.heap.size, o, none⟩ = #[.int .i64 14, .int .i64 vnum, .string vtx, .slice vpa vpl vpc, .slice vqa vql vqc, .bool vopn, .slice vka vkl vkc][o]? := fun o => (hb2.cell (p := ⟨w.heap.size, o, none⟩) hl0).trans (cells_of NA.out o)) | (go_at_call 41; (with_reducible refine (HI.out _ (hb1.trans (hb2.mono hs1))).mono ?_); rintro e w3 ⟨rfl, hb3⟩))
    go_ret
    exact ⟨ret_bool hR.out.symm, hb1.trans ((hb2.trans (hb3.mono hs2)).mono hs1)⟩
set_option maxRecDepth 100000 in
set_option maxHeartbeats 8000000 in
theorem rightR_15 (n B d : Nat) (HD : Hid (RightROk n)) (vnum : Int) (vtx : ByteArray) (vpa : Option Addr) (vpl vpc : Nat) (vqa : Option Addr) (vql vqc : Nat) (vopn : Bool) (vka : Option Addr) (vkl vkc : Nat) (p : List ByteArray) (q : List (ByteArray × Ex n)) (kl : List (Ex n)) (w : World) (hB : B ≤ w.heap.size) (hps : StrsIn w B vpa vpl p) (hqs : PairsIn (ExIn w B n) w B vqa vql q) (hks : KidsIn (ExIn w B n) w B vka vkl kl) (hsq : ∀ i (h : i < q.length), SmallE n d q[i].2) (h200 : q.length ≤ 200) (hsk : ∀ i (h : i < kl.length), SmallE n d kl[i]) : Calls Tryd.prog 18 #[.agg #[.int .i64 15, .int .i64 vnum, .string vtx, .slice vpa vpl vpc, .slice vqa vql vqc, .bool vopn, .slice vka vkl vkc]] w fun e w' => e = .returned (.bool (rawV ⟨15, vnum, vtx, vpa, vpl, vpc, vqa, vql, vqc, vopn, vka, vkl, vkc⟩ p (q.map (·.1)) (q.all (fun p => rightE n p.2)) (kl.all (rightE n)))) ∧ Below w.heap.size w w' := by
  have hu := And.intro HD (And.intro hB (And.intro hps (And.intro hqs (And.intro hks (And.intro hsq (And.intro h200 hsk))))))
  clear hu
  have hb1 := bel1 w (.cells #[.int .i64 15, .int .i64 vnum, .string vtx, .slice vpa vpl vpc, .slice vqa vql vqc, .bool vopn, .slice vka vkl vkc] 26)
  have NA := Lib.hid (new_cells w #[.int .i64 15, .int .i64 vnum, .string vtx, .slice vpa vpl vpc, .slice vqa vql vqc, .bool vopn, .slice vka vkl vkc] 26)
  have hs1 := hb1.size
  have hl0 : w.heap.size < (w.alloc (.cells #[.int .i64 15, .int .i64 vnum, .string vtx, .slice vpa vpl vpc, .slice vqa vql vqc, .bool vopn, .slice vka vkl vkc] 26)).heap.size := by simp
  have HB := Lib.hid (empty_4 ⟨15, vnum, vtx, vpa, vpl, vpc, vqa, vql, vqc, vopn, vka, vkl, vkc⟩ (w.alloc (.cells #[.int .i64 15, .int .i64 vnum, .string vtx, .slice vpa vpl vpc, .slice vqa vql vqc, .bool vopn, .slice vka vkl vkc] 26)))
  generalize hbb : bareV ⟨15, vnum, vtx, vpa, vpl, vpc, vqa, vql, vqc, vopn, vka, vkl, vkc⟩ false false false false true = b at HB
  have HB2 : Hid (bareV ⟨15, vnum, vtx, vpa, vpl, vpc, vqa, vql, vqc, vopn, vka, vkl, vkc⟩ false false false false true = b) := Lib.hid hbb
  dsimp only at HB
  clear hbb
  generalize hni : (kl.all (rightE n) && (decide ((2 : Int) ≤ (vkl : Int)) && decide ((vkl : Int) ≤ 2))) = c
  have HN := Lib.hid hni
  have HI : Hid (∀ W, Below w.heap.size w W → Calls Tryd.prog 41 #[.slice vka vkl vkc, .int .i64 2, .int .i64 2] W fun e w' => e = .returned (.bool c) ∧ Below W.heap.size W w') := Lib.hid (fun W h => by
    rw [← hni]
    exact kidsR_any n HD W B vka vkl vkc 2 2 kl d (by have := h.size; omega) hsk (KidsIn.kept hks h hB))
  clear hni
  clear hps hqs hks hsq hsk HD
  cases b
  · have hR : Hid (rawV ⟨15, vnum, vtx, vpa, vpl, vpc, vqa, vql, vqc, vopn, vka, vkl, vkc⟩ p (q.map (·.1)) (q.all (fun p => rightE n p.2)) (kl.all (rightE n)) = false) := Lib.hid (by simp [rawV, HB2.out])
    go_enter Tryd.func18, Tryd.ntmps18
    go_wp2_with (first | (go_at_call 37; (with_reducible refine HB.out.mono ?_); rintro e w2 ⟨rfl, hb2⟩; have hs2 := hb2.size; have hA : ∀ o, w2.cell? ⟨w.heap.size, o, none⟩ = #[.int .i64 15, .int .i64 vnum, .string vtx, .slice vpa vpl vpc, .slice vqa vql vqc, .bool vopn, .slice vka vkl vkc][o]? := fun o => (hb2.cell (p := ⟨w.heap.size, o, none⟩) hl0).trans (cells_of NA.out o)))
    go_ret
    exact ⟨ret_bool hR.out.symm, hb1.trans (hb2.mono hs1)⟩
  · have hR : Hid (rawV ⟨15, vnum, vtx, vpa, vpl, vpc, vqa, vql, vqc, vopn, vka, vkl, vkc⟩ p (q.map (·.1)) (q.all (fun p => rightE n p.2)) (kl.all (rightE n)) = c) := Lib.hid (by rw [← HN.out]; simp [rawV, HB2.out])
    go_enter Tryd.func18, Tryd.ntmps18
    go_wp2_with (first | (go_at_call 37; (with_reducible refine HB.out.mono ?_); rintro e w2 ⟨rfl, hb2⟩; have hs2 := hb2.size; have hA : ∀ o, w2.cell? ⟨w.heap.size, o, none⟩ = #[.int .i64 15, .int .i64 vnum, .string vtx, .slice vpa vpl vpc, .slice vqa vql vqc, .bool vopn, .slice vka vkl vkc][o]? := fun o => (hb2.cell (p := ⟨w.heap.size, o, none⟩) hl0).trans (cells_of NA.out o)) | (go_at_call 41; (with_reducible refine (HI.out _ (hb1.trans (hb2.mono hs1))).mono ?_); rintro e w3 ⟨rfl, hb3⟩))
    go_ret
    exact ⟨ret_bool hR.out.symm, hb1.trans ((hb2.trans (hb3.mono hs2)).mono hs1)⟩
set_option maxRecDepth 100000 in
set_option maxHeartbeats 8000000 in
theorem rightR_no (n B d : Nat) (HD : Hid (RightROk n)) (vop : Int) (vnum : Int) (vtx : ByteArray) (vpa : Option Addr) (vpl vpc : Nat) (vqa : Option Addr) (vql vqc : Nat) (vopn : Bool) (vka : Option Addr) (vkl vkc : Nat) (p : List ByteArray) (q : List (ByteArray × Ex n)) (kl : List (Ex n)) (w : World) (hB : B ≤ w.heap.size) (hps : StrsIn w B vpa vpl p) (hqs : PairsIn (ExIn w B n) w B vqa vql q) (hks : KidsIn (ExIn w B n) w B vka vkl kl) (hsq : ∀ i (h : i < q.length), SmallE n d q[i].2) (h200 : q.length ≤ 200) (hsk : ∀ i (h : i < kl.length), SmallE n d kl[i]) (h1 : ¬ vop = 1) (h2 : ¬ vop = 2) (h3 : ¬ vop = 3) (h4 : ¬ vop = 4) (h5 : ¬ vop = 5) (h6 : ¬ vop = 6) (h7 : ¬ vop = 7) (h8 : ¬ vop = 8) (h9 : ¬ vop = 9) (h10 : ¬ vop = 10) (h11 : ¬ vop = 11) (h12 : ¬ vop = 12) (h13 : ¬ vop = 13) (h14 : ¬ vop = 14) (h15 : ¬ vop = 15) : Calls Tryd.prog 18 #[.agg #[.int .i64 vop, .int .i64 vnum, .string vtx, .slice vpa vpl vpc, .slice vqa vql vqc, .bool vopn, .slice vka vkl vkc]] w fun e w' => e = .returned (.bool (rawV ⟨vop, vnum, vtx, vpa, vpl, vpc, vqa, vql, vqc, vopn, vka, vkl, vkc⟩ p (q.map (·.1)) (q.all (fun p => rightE n p.2)) (kl.all (rightE n)))) ∧ Below w.heap.size w w' := by
  have hu := And.intro HD (And.intro hB (And.intro hps (And.intro hqs (And.intro hks (And.intro hsq (And.intro h200 hsk))))))
  clear hu
  have hb1 := bel1 w (.cells #[.int .i64 vop, .int .i64 vnum, .string vtx, .slice vpa vpl vpc, .slice vqa vql vqc, .bool vopn, .slice vka vkl vkc] 26)
  have NA := Lib.hid (new_cells w #[.int .i64 vop, .int .i64 vnum, .string vtx, .slice vpa vpl vpc, .slice vqa vql vqc, .bool vopn, .slice vka vkl vkc] 26)
  have hs1 := hb1.size
  have hl0 : w.heap.size < (w.alloc (.cells #[.int .i64 vop, .int .i64 vnum, .string vtx, .slice vpa vpl vpc, .slice vqa vql vqc, .bool vopn, .slice vka vkl vkc] 26)).heap.size := by simp
  have hR : Hid (rawV ⟨vop, vnum, vtx, vpa, vpl, vpc, vqa, vql, vqc, vopn, vka, vkl, vkc⟩ p (q.map (·.1)) (q.all (fun p => rightE n p.2)) (kl.all (rightE n)) = false) := Lib.hid (by simp [rawV, *])
  have e1 : (vop == 1) = false := by simpa using h1
  have e2 : (vop == 2) = false := by simpa using h2
  have e3 : (vop == 3) = false := by simpa using h3
  have e4 : (vop == 4) = false := by simpa using h4
  have e5 : (vop == 5) = false := by simpa using h5
  have e6 : (vop == 6) = false := by simpa using h6
  have e7 : (vop == 7) = false := by simpa using h7
  have e8 : (vop == 8) = false := by simpa using h8
  have e9 : (vop == 9) = false := by simpa using h9
  have e10 : (vop == 10) = false := by simpa using h10
  have e11 : (vop == 11) = false := by simpa using h11
  have e12 : (vop == 12) = false := by simpa using h12
  have e13 : (vop == 13) = false := by simpa using h13
  have e14 : (vop == 14) = false := by simpa using h14
  have e15 : (vop == 15) = false := by simpa using h15
  clear h1 h2 h3 h4 h5 h6 h7 h8 h9 h10 h11 h12 h13 h14 h15
  clear hps hqs hks hsq hsk HD
  go_enter Tryd.func18, Tryd.ntmps18
  go_wp2
  go_ret
  exact ⟨ret_bool hR.out.symm, hb1⟩
theorem rightR_succ (n : Nat) (HD : Hid (RightROk n)) : RightROk (n + 1) := by
  intro w B v x d hB hsm hx
  rw [← raw_right hx]
  obtain ⟨vop, vnum, vtx, vpa, vpl, vpc, vqa, vql, vqc, vopn, vka, vkl, vkc⟩ := v
  obtain ⟨-, -, -, -, h5, h6, h7⟩ := hx
  obtain ⟨-, -, -, h200, -, -, hq, hk⟩ := hsm
  have hq2 : ∀ i (h : i < x.2.2.1.length), SmallE n (d - 1) x.2.2.1[i].2 := fun i h => (hq i h).2
  simp only at h5 h6 h7 ⊢
  by_cases hn1 : vop = 1
  · subst hn1; exact rightR_1 n B (d - 1) HD _ _ _ _ _ _ _ _ _ _ _ _ _ _ _ w hB h5 h6 h7 hq2 h200 hk
  by_cases hn2 : vop = 2
  · subst hn2; exact rightR_2 n B (d - 1) HD _ _ _ _ _ _ _ _ _ _ _ _ _ _ _ w hB h5 h6 h7 hq2 h200 hk
  by_cases hn3 : vop = 3
  · subst hn3; exact rightR_3 n B (d - 1) HD _ _ _ _ _ _ _ _ _ _ _ _ _ _ _ w hB h5 h6 h7 hq2 h200 hk
  by_cases hn4 : vop = 4
  · subst hn4; exact rightR_4 n B (d - 1) HD _ _ _ _ _ _ _ _ _ _ _ _ _ _ _ w hB h5 h6 h7 hq2 h200 hk
  by_cases hn5 : vop = 5
  · subst hn5; exact rightR_5 n B (d - 1) HD _ _ _ _ _ _ _ _ _ _ _ _ _ _ _ w hB h5 h6 h7 hq2 h200 hk
  by_cases hn6 : vop = 6
  · subst hn6; exact rightR_6 n B (d - 1) HD _ _ _ _ _ _ _ _ _ _ _ _ _ _ _ w hB h5 h6 h7 hq2 h200 hk
  by_cases hn7 : vop = 7
  · subst hn7; exact rightR_7 n B (d - 1) HD _ _ _ _ _ _ _ _ _ _ _ _ _ _ _ w hB h5 h6 h7 hq2 h200 hk
  by_cases hn8 : vop = 8
  · subst hn8; exact rightR_8 n B (d - 1) HD _ _ _ _ _ _ _ _ _ _ _ _ _ _ _ w hB h5 h6 h7 hq2 h200 hk
  by_cases hn9 : vop = 9
  · subst hn9; exact rightR_9 n B (d - 1) HD _ _ _ _ _ _ _ _ _ _ _ _ _ _ _ w hB h5 h6 h7 hq2 h200 hk
  by_cases hn10 : vop = 10
  · subst hn10; exact rightR_10 n B (d - 1) HD _ _ _ _ _ _ _ _ _ _ _ _ _ _ _ w hB h5 h6 h7 hq2 h200 hk
  by_cases hn11 : vop = 11
  · subst hn11; exact rightR_11 n B (d - 1) HD _ _ _ _ _ _ _ _ _ _ _ _ _ _ _ w hB h5 h6 h7 hq2 h200 hk
  by_cases hn12 : vop = 12
  · subst hn12; exact rightR_12 n B (d - 1) HD _ _ _ _ _ _ _ _ _ _ _ _ _ _ _ w hB h5 h6 h7 hq2 h200 hk
  by_cases hn13 : vop = 13
  · subst hn13; exact rightR_13 n B (d - 1) HD _ _ _ _ _ _ _ _ _ _ _ _ _ _ _ w hB h5 h6 h7 hq2 h200 hk
  by_cases hn14 : vop = 14
  · subst hn14; exact rightR_14 n B (d - 1) HD _ _ _ _ _ _ _ _ _ _ _ _ _ _ _ w hB h5 h6 h7 hq2 h200 hk
  by_cases hn15 : vop = 15
  · subst hn15; exact rightR_15 n B (d - 1) HD _ _ _ _ _ _ _ _ _ _ _ _ _ _ _ w hB h5 h6 h7 hq2 h200 hk
  exact rightR_no n B (d - 1) HD _ _ _ _ _ _ _ _ _ _ _ _ _ _ _ _ w hB h5 h6 h7 hq2 h200 hk hn1 hn2 hn3 hn4 hn5 hn6 hn7 hn8 hn9 hn10 hn11 hn12 hn13 hn14 hn15
theorem rightR_ok : ∀ n, RightROk n
  | 0 => fun _ _ _ x => x.elim
  | n + 1 => rightR_succ n (Lib.hid (rightR_ok n))
end Go.Proofs.YtigdibglkejciaaDoor.Ex
