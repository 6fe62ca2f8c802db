/-
  An expression's shape: all but its parts.
-/
import Derived.Test.YtigdibglkejciaaDoorE27
namespace Go.Proofs.YtigdibglkejciaaDoor.Ex
open Go.RowKit Go
set_option linter.unusedSimpArgs false

/-- The shape, by the cells, the path, the pairs' names. -/
def shapeV (v : V7) (p nm : List ByteArray) : Bool :=
  if v.op = 1 ∨ v.op = 7 ∨ v.op = 8 then bareV v true false false false false && numIn v.num
  else if v.op = 2 then bareV v false true false false false && decide ((v.tx.size : Int) ≤ 256)
  else if v.op = 3 then bareV v true false false false false && (v.num == 0 || v.num == 1)
  else if v.op = 4 then bareV v true false false false false && (v.num == 1 || v.num == 2 || v.num == 3 || v.num == 5)
  else if v.op = 5 ∨ v.op = 6 then bareV v false false false false false
  else if v.op = 9 then bareV v false false true false false && path p
  else if v.op = 10 then bareV v false false false true false && (decide ((v.ql : Int) ≤ 32) && rising nm)
  else if v.op = 11 ∨ v.op = 12 then bareV v false false false false true && (decide ((2 : Int) ≤ v.kl) && decide ((v.kl : Int) ≤ 32))
  else if v.op = 13 ∨ v.op = 14 ∨ v.op = 15 then bareV v false false false false true && ((v.kl : Int) == 2)
  else false
def vOf {n : Nat} (x : Ex (n + 1)) : V7 := ⟨x.1.op, x.1.num, x.1.text, none, x.2.1.length, 0, none, x.2.2.1.length, 0, x.1.opn, none, x.2.2.2.length, 0⟩
/-- The shape of an expression. -/
def shapeE {n : Nat} (x : Ex (n + 1)) : Bool := shapeV (vOf x) x.2.1 (x.2.2.1.map (·.1))
theorem shapeE_of {n : Nat} {w : World} {B : Nat} {v : V7} {x : Ex (n + 1)} (h : ExIn w B (n + 1) v x) : shapeV v x.2.1 (x.2.2.1.map (·.1)) = shapeE x := by
  obtain ⟨vop, vnum, vtx, vpa, vpl, vpc, vqa, vql, vqc, vopn, vka, vkl, vkc⟩ := v
  obtain ⟨h1, h2, h3, h4, h5, h6, h7⟩ := h
  have e5 := h5.1
  have e6 := h6.1
  have e7 := h7.1
  simp only at h1 h2 h3 h4 e5 e6 e7
  subst h1 h2 h3 h4 e5 e6 e7
  rfl
set_option maxRecDepth 100000 in
set_option maxHeartbeats 8000000 in
theorem shaped_1 (n B : Nat) (vnum : Int) (vtx : ByteArray) (vpa : Option Addr) (vpl vpc : Nat) (vqa : Option Addr) (vql vqc : Nat) (vopn : Bool) (vka : Option Addr) (vkl vkc : Nat) (p : List ByteArray) (q : List (ByteArray × Ex n)) (w : World) (hB : B ≤ w.heap.size) (hW : Words w) (hps : StrsIn w B vpa vpl p) (hqs : PairsIn (ExIn w B n) w B vqa vql q) : Calls Tryd.prog 33 #[.agg #[.int .i64 1, .int .i64 vnum, .string vtx, .slice vpa vpl vpc, .slice vqa vql vqc, .bool vopn, .slice vka vkl vkc]] w fun e w' => e = .returned (.bool (shapeV ⟨1, vnum, vtx, vpa, vpl, vpc, vqa, vql, vqc, vopn, vka, vkl, vkc⟩ p (q.map (·.1)))) ∧ Below w.heap.size w w' := by
  have hp0 := hW.pos
  have hu := And.intro hB (And.intro hps hqs)
  clear hu
  have hb1 := bel1 w (.cells #[.int .i64 1, .int .i64 vnum, .string vtx, .slice vpa vpl vpc, .slice vqa vql vqc, .bool vopn, .slice vka vkl vkc] 26)
  have NA := Lib.hid (new_cells w #[.int .i64 1, .int .i64 vnum, .string vtx, .slice vpa vpl vpc, .slice vqa vql vqc, .bool vopn, .slice vka vkl vkc] 26)
  have hs1 := hb1.size
  have hl0 : w.heap.size < (w.alloc (.cells #[.int .i64 1, .int .i64 vnum, .string vtx, .slice vpa vpl vpc, .slice vqa vql vqc, .bool vopn, .slice vka vkl vkc] 26)).heap.size := by simp
  have HB := Lib.hid (bare_0 ⟨1, vnum, vtx, vpa, vpl, vpc, vqa, vql, vqc, vopn, vka, vkl, vkc⟩ (w.alloc (.cells #[.int .i64 1, .int .i64 vnum, .string vtx, .slice vpa vpl vpc, .slice vqa vql vqc, .bool vopn, .slice vka vkl vkc] 26)))
  generalize hbb : bareV ⟨1, vnum, vtx, vpa, vpl, vpc, vqa, vql, vqc, vopn, vka, vkl, vkc⟩ true false false false false = b at HB
  have HB2 : Hid (bareV ⟨1, vnum, vtx, vpa, vpl, vpc, vqa, vql, vqc, vopn, vka, vkl, vkc⟩ true false false false false = b) := Lib.hid hbb
  dsimp only at HB
  clear hbb
  clear hps hqs hW
  generalize hni : numIn vnum = c
  have HI : Hid (∀ W, Calls Tryd.prog 47 #[.int .i64 vnum] W fun e w' => e = .returned (.bool c) ∧ W = w') := Lib.hid (fun W => hni ▸ in_any vnum W)
  have HNI := Lib.hid hni
  cases b
  · have hR : Hid (shapeV ⟨1, vnum, vtx, vpa, vpl, vpc, vqa, vql, vqc, vopn, vka, vkl, vkc⟩ p (q.map (·.1)) = false) := Lib.hid (by simp [shapeV, HB2.out])
    clear hni
    go_enter Tryd.func33, Tryd.ntmps33
    go_wp2_with (first | (go_at_call 46; (with_reducible refine HB.out.mono ?_); rintro e w2 ⟨rfl, hb2⟩; have hs2 := hb2.size; have hA : ∀ o, w2.cell? ⟨w.heap.size, o, none⟩ = #[.int .i64 1, .int .i64 vnum, .string vtx, .slice vpa vpl vpc, .slice vqa vql vqc, .bool vopn, .slice vka vkl vkc][o]? := fun o => (hb2.cell (p := ⟨w.heap.size, o, none⟩) hl0).trans (cells_of NA.out o)))
    go_ret
    exact ⟨ret_bool hR.out.symm, hb1.trans (hb2.mono hs1)⟩
  · have hR : Hid (shapeV ⟨1, vnum, vtx, vpa, vpl, vpc, vqa, vql, vqc, vopn, vka, vkl, vkc⟩ p (q.map (·.1)) = c) := Lib.hid (by simp [shapeV, HB2.out, hni])
    clear hni
    go_enter Tryd.func33, Tryd.ntmps33
    go_wp2_with (first | (go_at_call 46; (with_reducible refine HB.out.mono ?_); rintro e w2 ⟨rfl, hb2⟩; have hs2 := hb2.size; have hA : ∀ o, w2.cell? ⟨w.heap.size, o, none⟩ = #[.int .i64 1, .int .i64 vnum, .string vtx, .slice vpa vpl vpc, .slice vqa vql vqc, .bool vopn, .slice vka vkl vkc][o]? := fun o => (hb2.cell (p := ⟨w.heap.size, o, none⟩) hl0).trans (cells_of NA.out o)) | (go_at_call 47; (with_reducible refine (HI.out _).mono ?_); rintro e w3 ⟨rfl, rfl⟩))
    go_ret
    exact ⟨ret_bool hR.out.symm, hb1.trans (hb2.mono hs1)⟩
set_option maxRecDepth 100000 in
set_option maxHeartbeats 8000000 in
theorem shaped_7 (n B : Nat) (vnum : Int) (vtx : ByteArray) (vpa : Option Addr) (vpl vpc : Nat) (vqa : Option Addr) (vql vqc : Nat) (vopn : Bool) (vka : Option Addr) (vkl vkc : Nat) (p : List ByteArray) (q : List (ByteArray × Ex n)) (w : World) (hB : B ≤ w.heap.size) (hW : Words w) (hps : StrsIn w B vpa vpl p) (hqs : PairsIn (ExIn w B n) w B vqa vql q) : Calls Tryd.prog 33 #[.agg #[.int .i64 7, .int .i64 vnum, .string vtx, .slice vpa vpl vpc, .slice vqa vql vqc, .bool vopn, .slice vka vkl vkc]] w fun e w' => e = .returned (.bool (shapeV ⟨7, vnum, vtx, vpa, vpl, vpc, vqa, vql, vqc, vopn, vka, vkl, vkc⟩ p (q.map (·.1)))) ∧ Below w.heap.size w w' := by
  have hp0 := hW.pos
  have hu := And.intro hB (And.intro hps hqs)
  clear hu
  have hb1 := bel1 w (.cells #[.int .i64 7, .int .i64 vnum, .string vtx, .slice vpa vpl vpc, .slice vqa vql vqc, .bool vopn, .slice vka vkl vkc] 26)
  have NA := Lib.hid (new_cells w #[.int .i64 7, .int .i64 vnum, .string vtx, .slice vpa vpl vpc, .slice vqa vql vqc, .bool vopn, .slice vka vkl vkc] 26)
  have hs1 := hb1.size
  have hl0 : w.heap.size < (w.alloc (.cells #[.int .i64 7, .int .i64 vnum, .string vtx, .slice vpa vpl vpc, .slice vqa vql vqc, .bool vopn, .slice vka vkl vkc] 26)).heap.size := by simp
  have HB := Lib.hid (bare_0 ⟨7, vnum, vtx, vpa, vpl, vpc, vqa, vql, vqc, vopn, vka, vkl, vkc⟩ (w.alloc (.cells #[.int .i64 7, .int .i64 vnum, .string vtx, .slice vpa vpl vpc, .slice vqa vql vqc, .bool vopn, .slice vka vkl vkc] 26)))
  generalize hbb : bareV ⟨7, vnum, vtx, vpa, vpl, vpc, vqa, vql, vqc, vopn, vka, vkl, vkc⟩ true false false false false = b at HB
  have HB2 : Hid (bareV ⟨7, vnum, vtx, vpa, vpl, vpc, vqa, vql, vqc, vopn, vka, vkl, vkc⟩ true false false false false = b) := Lib.hid hbb
  dsimp only at HB
  clear hbb
  clear hps hqs hW
  generalize hni : numIn vnum = c
  have HI : Hid (∀ W, Calls Tryd.prog 47 #[.int .i64 vnum] W fun e w' => e = .returned (.bool c) ∧ W = w') := Lib.hid (fun W => hni ▸ in_any vnum W)
  have HNI := Lib.hid hni
  cases b
  · have hR : Hid (shapeV ⟨7, vnum, vtx, vpa, vpl, vpc, vqa, vql, vqc, vopn, vka, vkl, vkc⟩ p (q.map (·.1)) = false) := Lib.hid (by simp [shapeV, HB2.out])
    clear hni
    go_enter Tryd.func33, Tryd.ntmps33
    go_wp2_with (first | (go_at_call 46; (with_reducible refine HB.out.mono ?_); rintro e w2 ⟨rfl, hb2⟩; have hs2 := hb2.size; have hA : ∀ o, w2.cell? ⟨w.heap.size, o, none⟩ = #[.int .i64 7, .int .i64 vnum, .string vtx, .slice vpa vpl vpc, .slice vqa vql vqc, .bool vopn, .slice vka vkl vkc][o]? := fun o => (hb2.cell (p := ⟨w.heap.size, o, none⟩) hl0).trans (cells_of NA.out o)))
    go_ret
    exact ⟨ret_bool hR.out.symm, hb1.trans (hb2.mono hs1)⟩
  · have hR : Hid (shapeV ⟨7, vnum, vtx, vpa, vpl, vpc, vqa, vql, vqc, vopn, vka, vkl, vkc⟩ p (q.map (·.1)) = c) := Lib.hid (by simp [shapeV, HB2.out, hni])
    clear hni
    go_enter Tryd.func33, Tryd.ntmps33
    go_wp2_with (first | (go_at_call 46; (with_reducible refine HB.out.mono ?_); rintro e w2 ⟨rfl, hb2⟩; have hs2 := hb2.size; have hA : ∀ o, w2.cell? ⟨w.heap.size, o, none⟩ = #[.int .i64 7, .int .i64 vnum, .string vtx, .slice vpa vpl vpc, .slice vqa vql vqc, .bool vopn, .slice vka vkl vkc][o]? := fun o => (hb2.cell (p := ⟨w.heap.size, o, none⟩) hl0).trans (cells_of NA.out o)) | (go_at_call 47; (with_reducible refine (HI.out _).mono ?_); rintro e w3 ⟨rfl, rfl⟩))
    go_ret
    exact ⟨ret_bool hR.out.symm, hb1.trans (hb2.mono hs1)⟩
set_option maxRecDepth 100000 in
set_option maxHeartbeats 8000000 in
theorem shaped_8 (n B : Nat) (vnum : Int) (vtx : ByteArray) (vpa : Option Addr) (vpl vpc : Nat) (vqa : Option Addr) (vql vqc : Nat) (vopn : Bool) (vka : Option Addr) (vkl vkc : Nat) (p : List ByteArray) (q : List (ByteArray × Ex n)) (w : World) (hB : B ≤ w.heap.size) (hW : Words w) (hps : StrsIn w B vpa vpl p) (hqs : PairsIn (ExIn w B n) w B vqa vql q) : Calls Tryd.prog 33 #[.agg #[.int .i64 8, .int .i64 vnum, .string vtx, .slice vpa vpl vpc, .slice vqa vql vqc, .bool vopn, .slice vka vkl vkc]] w fun e w' => e = .returned (.bool (shapeV ⟨8, vnum, vtx, vpa, vpl, vpc, vqa, vql, vqc, vopn, vka, vkl, vkc⟩ p (q.map (·.1)))) ∧ Below w.heap.size w w' := by
  have hp0 := hW.pos
  have hu := And.intro hB (And.intro hps hqs)
  clear hu
  have hb1 := bel1 w (.cells #[.int .i64 8, .int .i64 vnum, .string vtx, .slice vpa vpl vpc, .slice vqa vql vqc, .bool vopn, .slice vka vkl vkc] 26)
  have NA := Lib.hid (new_cells w #[.int .i64 8, .int .i64 vnum, .string vtx, .slice vpa vpl vpc, .slice vqa vql vqc, .bool vopn, .slice vka vkl vkc] 26)
  have hs1 := hb1.size
  have hl0 : w.heap.size < (w.alloc (.cells #[.int .i64 8, .int .i64 vnum, .string vtx, .slice vpa vpl vpc, .slice vqa vql vqc, .bool vopn, .slice vka vkl vkc] 26)).heap.size := by simp
  have HB := Lib.hid (bare_0 ⟨8, vnum, vtx, vpa, vpl, vpc, vqa, vql, vqc, vopn, vka, vkl, vkc⟩ (w.alloc (.cells #[.int .i64 8, .int .i64 vnum, .string vtx, .slice vpa vpl vpc, .slice vqa vql vqc, .bool vopn, .slice vka vkl vkc] 26)))
  generalize hbb : bareV ⟨8, vnum, vtx, vpa, vpl, vpc, vqa, vql, vqc, vopn, vka, vkl, vkc⟩ true false false false false = b at HB
  have HB2 : Hid (bareV ⟨8, vnum, vtx, vpa, vpl, vpc, vqa, vql, vqc, vopn, vka, vkl, vkc⟩ true false false false false = b) := Lib.hid hbb
  dsimp only at HB
  clear hbb
  clear hps hqs hW
  generalize hni : numIn vnum = c
  have HI : Hid (∀ W, Calls Tryd.prog 47 #[.int .i64 vnum] W fun e w' => e = .returned (.bool c) ∧ W = w') := Lib.hid (fun W => hni ▸ in_any vnum W)
  have HNI := Lib.hid hni
  cases b
  · have hR : Hid (shapeV ⟨8, vnum, vtx, vpa, vpl, vpc, vqa, vql, vqc, vopn, vka, vkl, vkc⟩ p (q.map (·.1)) = false) := Lib.hid (by simp [shapeV, HB2.out])
    clear hni
    go_enter Tryd.func33, Tryd.ntmps33
    go_wp2_with (first | (go_at_call 46; (with_reducible refine HB.out.mono ?_); rintro e w2 ⟨rfl, hb2⟩; have hs2 := hb2.size; have hA : ∀ o, w2.cell? ⟨w.heap.size, o, none⟩ = #[.int .i64 8, .int .i64 vnum, .string vtx, .slice vpa vpl vpc, .slice vqa vql vqc, .bool vopn, .slice vka vkl vkc][o]? := fun o => (hb2.cell (p := ⟨w.heap.size, o, none⟩) hl0).trans (cells_of NA.out o)))
    go_ret
    exact ⟨ret_bool hR.out.symm, hb1.trans (hb2.mono hs1)⟩
  · have hR : Hid (shapeV ⟨8, vnum, vtx, vpa, vpl, vpc, vqa, vql, vqc, vopn, vka, vkl, vkc⟩ p (q.map (·.1)) = c) := Lib.hid (by simp [shapeV, HB2.out, hni])
    clear hni
    go_enter Tryd.func33, Tryd.ntmps33
    go_wp2_with (first | (go_at_call 46; (with_reducible refine HB.out.mono ?_); rintro e w2 ⟨rfl, hb2⟩; have hs2 := hb2.size; have hA : ∀ o, w2.cell? ⟨w.heap.size, o, none⟩ = #[.int .i64 8, .int .i64 vnum, .string vtx, .slice vpa vpl vpc, .slice vqa vql vqc, .bool vopn, .slice vka vkl vkc][o]? := fun o => (hb2.cell (p := ⟨w.heap.size, o, none⟩) hl0).trans (cells_of NA.out o)) | (go_at_call 47; (with_reducible refine (HI.out _).mono ?_); rintro e w3 ⟨rfl, rfl⟩))
    go_ret
    exact ⟨ret_bool hR.out.symm, hb1.trans (hb2.mono hs1)⟩
set_option maxRecDepth 100000 in
set_option maxHeartbeats 8000000 in
theorem shaped_2 (n B : Nat) (vnum : Int) (vtx : ByteArray) (vpa : Option Addr) (vpl vpc : Nat) (vqa : Option Addr) (vql vqc : Nat) (vopn : Bool) (vka : Option Addr) (vkl vkc : Nat) (p : List ByteArray) (q : List (ByteArray × Ex n)) (w : World) (hB : B ≤ w.heap.size) (hW : Words w) (hps : StrsIn w B vpa vpl p) (hqs : PairsIn (ExIn w B n) w B vqa vql q) : Calls Tryd.prog 33 #[.agg #[.int .i64 2, .int .i64 vnum, .string vtx, .slice vpa vpl vpc, .slice vqa vql vqc, .bool vopn, .slice vka vkl vkc]] w fun e w' => e = .returned (.bool (shapeV ⟨2, vnum, vtx, vpa, vpl, vpc, vqa, vql, vqc, vopn, vka, vkl, vkc⟩ p (q.map (·.1)))) ∧ Below w.heap.size w w' := by
  have hp0 := hW.pos
  have hu := And.intro hB (And.intro hps hqs)
  clear hu
  have hb1 := bel1 w (.cells #[.int .i64 2, .int .i64 vnum, .string vtx, .slice vpa vpl vpc, .slice vqa vql vqc, .bool vopn, .slice vka vkl vkc] 26)
  have NA := Lib.hid (new_cells w #[.int .i64 2, .int .i64 vnum, .string vtx, .slice vpa vpl vpc, .slice vqa vql vqc, .bool vopn, .slice vka vkl vkc] 26)
  have hs1 := hb1.size
  have hl0 : w.heap.size < (w.alloc (.cells #[.int .i64 2, .int .i64 vnum, .string vtx, .slice vpa vpl vpc, .slice vqa vql vqc, .bool vopn, .slice vka vkl vkc] 26)).heap.size := by simp
  have HB := Lib.hid (bare_1 ⟨2, vnum, vtx, vpa, vpl, vpc, vqa, vql, vqc, vopn, vka, vkl, vkc⟩ (w.alloc (.cells #[.int .i64 2, .int .i64 vnum, .string vtx, .slice vpa vpl vpc, .slice vqa vql vqc, .bool vopn, .slice vka vkl vkc] 26)))
  generalize hbb : bareV ⟨2, vnum, vtx, vpa, vpl, vpc, vqa, vql, vqc, vopn, vka, vkl, vkc⟩ false true false false false = b at HB
  have HB2 : Hid (bareV ⟨2, vnum, vtx, vpa, vpl, vpc, vqa, vql, vqc, vopn, vka, vkl, vkc⟩ false true false false false = b) := Lib.hid hbb
  dsimp only at HB
  clear hbb
  clear hps hqs hW
  cases b
  · have hR : Hid (shapeV ⟨2, vnum, vtx, vpa, vpl, vpc, vqa, vql, vqc, vopn, vka, vkl, vkc⟩ p (q.map (·.1)) = false) := Lib.hid (by simp [shapeV, HB2.out])
    go_enter Tryd.func33, Tryd.ntmps33
    go_wp2_with (first | (go_at_call 46; (with_reducible refine HB.out.mono ?_); rintro e w2 ⟨rfl, hb2⟩; have hs2 := hb2.size; have hA : ∀ o, w2.cell? ⟨w.heap.size, o, none⟩ = #[.int .i64 2, .int .i64 vnum, .string vtx, .slice vpa vpl vpc, .slice vqa vql vqc, .bool vopn, .slice vka vkl vkc][o]? := fun o => (hb2.cell (p := ⟨w.heap.size, o, none⟩) hl0).trans (cells_of NA.out o)))
    go_ret
    exact ⟨ret_bool hR.out.symm, hb1.trans (hb2.mono hs1)⟩
  · by_cases hz : (vtx.size : Int) ≤ 256
    · have hR : Hid (shapeV ⟨2, vnum, vtx, vpa, vpl, vpc, vqa, vql, vqc, vopn, vka, vkl, vkc⟩ p (q.map (·.1)) = true) := Lib.hid (by simp [shapeV, HB2.out]; omega)
      go_enter Tryd.func33, Tryd.ntmps33
      go_wp2_with (first | (go_at_call 46; (with_reducible refine HB.out.mono ?_); rintro e w2 ⟨rfl, hb2⟩; have hs2 := hb2.size; have hA : ∀ o, w2.cell? ⟨w.heap.size, o, none⟩ = #[.int .i64 2, .int .i64 vnum, .string vtx, .slice vpa vpl vpc, .slice vqa vql vqc, .bool vopn, .slice vka vkl vkc][o]? := fun o => (hb2.cell (p := ⟨w.heap.size, o, none⟩) hl0).trans (cells_of NA.out o)))
      go_ret
      exact ⟨ret_bool hR.out.symm, hb1.trans (hb2.mono hs1)⟩
    · have hR : Hid (shapeV ⟨2, vnum, vtx, vpa, vpl, vpc, vqa, vql, vqc, vopn, vka, vkl, vkc⟩ p (q.map (·.1)) = false) := Lib.hid (by simp [shapeV, HB2.out]; omega)
      have hz2 : (256 : Int) < (vtx.size : Int) := by omega
      clear hz
      go_enter Tryd.func33, Tryd.ntmps33
      go_wp2_with (first | (go_at_call 46; (with_reducible refine HB.out.mono ?_); rintro e w2 ⟨rfl, hb2⟩; have hs2 := hb2.size; have hA : ∀ o, w2.cell? ⟨w.heap.size, o, none⟩ = #[.int .i64 2, .int .i64 vnum, .string vtx, .slice vpa vpl vpc, .slice vqa vql vqc, .bool vopn, .slice vka vkl vkc][o]? := fun o => (hb2.cell (p := ⟨w.heap.size, o, none⟩) hl0).trans (cells_of NA.out o)))
      go_ret
      exact ⟨ret_bool (by rw [hR.out]; exact decide_eq_false (by omega)), hb1.trans (hb2.mono hs1)⟩
set_option maxRecDepth 100000 in
set_option maxHeartbeats 8000000 in
theorem shaped_3 (n B : Nat) (vnum : Int) (vtx : ByteArray) (vpa : Option Addr) (vpl vpc : Nat) (vqa : Option Addr) (vql vqc : Nat) (vopn : Bool) (vka : Option Addr) (vkl vkc : Nat) (p : List ByteArray) (q : List (ByteArray × Ex n)) (w : World) (hB : B ≤ w.heap.size) (hW : Words w) (hps : StrsIn w B vpa vpl p) (hqs : PairsIn (ExIn w B n) w B vqa vql q) : Calls Tryd.prog 33 #[.agg #[.int .i64 3, .int .i64 vnum, .string vtx, .slice vpa vpl vpc, .slice vqa vql vqc, .bool vopn, .slice vka vkl vkc]] w fun e w' => e = .returned (.bool (shapeV ⟨3, vnum, vtx, vpa, vpl, vpc, vqa, vql, vqc, vopn, vka, vkl, vkc⟩ p (q.map (·.1)))) ∧ Below w.heap.size w w' := by
  have hp0 := hW.pos
  have hu := And.intro hB (And.intro hps hqs)
  clear hu
  have hb1 := bel1 w (.cells #[.int .i64 3, .int .i64 vnum, .string vtx, .slice vpa vpl vpc, .slice vqa vql vqc, .bool vopn, .slice vka vkl vkc] 26)
  have NA := Lib.hid (new_cells w #[.int .i64 3, .int .i64 vnum, .string vtx, .slice vpa vpl vpc, .slice vqa vql vqc, .bool vopn, .slice vka vkl vkc] 26)
  have hs1 := hb1.size
  have hl0 : w.heap.size < (w.alloc (.cells #[.int .i64 3, .int .i64 vnum, .string vtx, .slice vpa vpl vpc, .slice vqa vql vqc, .bool vopn, .slice vka vkl vkc] 26)).heap.size := by simp
  have HB := Lib.hid (bare_0 ⟨3, vnum, vtx, vpa, vpl, vpc, vqa, vql, vqc, vopn, vka, vkl, vkc⟩ (w.alloc (.cells #[.int .i64 3, .int .i64 vnum, .string vtx, .slice vpa vpl vpc, .slice vqa vql vqc, .bool vopn, .slice vka vkl vkc] 26)))
  generalize hbb : bareV ⟨3, vnum, vtx, vpa, vpl, vpc, vqa, vql, vqc, vopn, vka, vkl, vkc⟩ true false false false false = b at HB
  have HB2 : Hid (bareV ⟨3, vnum, vtx, vpa, vpl, vpc, vqa, vql, vqc, vopn, vka, vkl, vkc⟩ true false false false false = b) := Lib.hid hbb
  dsimp only at HB
  clear hbb
  clear hps hqs hW
  cases b
  · have hR : Hid (shapeV ⟨3, vnum, vtx, vpa, vpl, vpc, vqa, vql, vqc, vopn, vka, vkl, vkc⟩ p (q.map (·.1)) = false) := Lib.hid (by simp [shapeV, HB2.out])
    go_enter Tryd.func33, Tryd.ntmps33
    go_wp2_with (first | (go_at_call 46; (with_reducible refine HB.out.mono ?_); rintro e w2 ⟨rfl, hb2⟩; have hs2 := hb2.size; have hA : ∀ o, w2.cell? ⟨w.heap.size, o, none⟩ = #[.int .i64 3, .int .i64 vnum, .string vtx, .slice vpa vpl vpc, .slice vqa vql vqc, .bool vopn, .slice vka vkl vkc][o]? := fun o => (hb2.cell (p := ⟨w.heap.size, o, none⟩) hl0).trans (cells_of NA.out o)))
    go_ret
    exact ⟨ret_bool hR.out.symm, hb1.trans (hb2.mono hs1)⟩
  · cases h0 : (vnum == 0)
    · cases h1 : (vnum == 1)
      · have hR : Hid (shapeV ⟨3, vnum, vtx, vpa, vpl, vpc, vqa, vql, vqc, vopn, vka, vkl, vkc⟩ p (q.map (·.1)) = false) := Lib.hid (by simp [shapeV, HB2.out]; exact ⟨by simpa using h0, by simpa using h1⟩)
        go_enter Tryd.func33, Tryd.ntmps33
        go_wp2_with (first | (go_at_call 46; (with_reducible refine HB.out.mono ?_); rintro e w2 ⟨rfl, hb2⟩; have hs2 := hb2.size; have hA : ∀ o, w2.cell? ⟨w.heap.size, o, none⟩ = #[.int .i64 3, .int .i64 vnum, .string vtx, .slice vpa vpl vpc, .slice vqa vql vqc, .bool vopn, .slice vka vkl vkc][o]? := fun o => (hb2.cell (p := ⟨w.heap.size, o, none⟩) hl0).trans (cells_of NA.out o)))
        go_ret
        exact ⟨ret_bool hR.out.symm, hb1.trans (hb2.mono hs1)⟩
      · have hR : Hid (shapeV ⟨3, vnum, vtx, vpa, vpl, vpc, vqa, vql, vqc, vopn, vka, vkl, vkc⟩ p (q.map (·.1)) = true) := Lib.hid (by simp [shapeV, HB2.out]; right; simpa using h1)
        go_enter Tryd.func33, Tryd.ntmps33
        go_wp2_with (first | (go_at_call 46; (with_reducible refine HB.out.mono ?_); rintro e w2 ⟨rfl, hb2⟩; have hs2 := hb2.size; have hA : ∀ o, w2.cell? ⟨w.heap.size, o, none⟩ = #[.int .i64 3, .int .i64 vnum, .string vtx, .slice vpa vpl vpc, .slice vqa vql vqc, .bool vopn, .slice vka vkl vkc][o]? := fun o => (hb2.cell (p := ⟨w.heap.size, o, none⟩) hl0).trans (cells_of NA.out o)))
        go_ret
        exact ⟨ret_bool hR.out.symm, hb1.trans (hb2.mono hs1)⟩
    · have hR : Hid (shapeV ⟨3, vnum, vtx, vpa, vpl, vpc, vqa, vql, vqc, vopn, vka, vkl, vkc⟩ p (q.map (·.1)) = true) := Lib.hid (by simp [shapeV, HB2.out]; left; simpa using h0)
      go_enter Tryd.func33, Tryd.ntmps33
      go_wp2_with (first | (go_at_call 46; (with_reducible refine HB.out.mono ?_); rintro e w2 ⟨rfl, hb2⟩; have hs2 := hb2.size; have hA : ∀ o, w2.cell? ⟨w.heap.size, o, none⟩ = #[.int .i64 3, .int .i64 vnum, .string vtx, .slice vpa vpl vpc, .slice vqa vql vqc, .bool vopn, .slice vka vkl vkc][o]? := fun o => (hb2.cell (p := ⟨w.heap.size, o, none⟩) hl0).trans (cells_of NA.out o)))
      go_ret
      exact ⟨ret_bool hR.out.symm, hb1.trans (hb2.mono hs1)⟩
set_option maxRecDepth 100000 in
set_option maxHeartbeats 8000000 in
theorem shaped_4 (n B : Nat) (vnum : Int) (vtx : ByteArray) (vpa : Option Addr) (vpl vpc : Nat) (vqa : Option Addr) (vql vqc : Nat) (vopn : Bool) (vka : Option Addr) (vkl vkc : Nat) (p : List ByteArray) (q : List (ByteArray × Ex n)) (w : World) (hB : B ≤ w.heap.size) (hW : Words w) (hps : StrsIn w B vpa vpl p) (hqs : PairsIn (ExIn w B n) w B vqa vql q) : Calls Tryd.prog 33 #[.agg #[.int .i64 4, .int .i64 vnum, .string vtx, .slice vpa vpl vpc, .slice vqa vql vqc, .bool vopn, .slice vka vkl vkc]] w fun e w' => e = .returned (.bool (shapeV ⟨4, vnum, vtx, vpa, vpl, vpc, vqa, vql, vqc, vopn, vka, vkl, vkc⟩ p (q.map (·.1)))) ∧ Below w.heap.size w w' := by
  have hp0 := hW.pos
  have hu := And.intro hB (And.intro hps hqs)
  clear hu
  have hb1 := bel1 w (.cells #[.int .i64 4, .int .i64 vnum, .string vtx, .slice vpa vpl vpc, .slice vqa vql vqc, .bool vopn, .slice vka vkl vkc] 26)
  have NA := Lib.hid (new_cells w #[.int .i64 4, .int .i64 vnum, .string vtx, .slice vpa vpl vpc, .slice vqa vql vqc, .bool vopn, .slice vka vkl vkc] 26)
  have hs1 := hb1.size
  have hl0 : w.heap.size < (w.alloc (.cells #[.int .i64 4, .int .i64 vnum, .string vtx, .slice vpa vpl vpc, .slice vqa vql vqc, .bool vopn, .slice vka vkl vkc] 26)).heap.size := by simp
  have HB := Lib.hid (bare_0 ⟨4, vnum, vtx, vpa, vpl, vpc, vqa, vql, vqc, vopn, vka, vkl, vkc⟩ (w.alloc (.cells #[.int .i64 4, .int .i64 vnum, .string vtx, .slice vpa vpl vpc, .slice vqa vql vqc, .bool vopn, .slice vka vkl vkc] 26)))
  generalize hbb : bareV ⟨4, vnum, vtx, vpa, vpl, vpc, vqa, vql, vqc, vopn, vka, vkl, vkc⟩ true false false false false = b at HB
  have HB2 : Hid (bareV ⟨4, vnum, vtx, vpa, vpl, vpc, vqa, vql, vqc, vopn, vka, vkl, vkc⟩ true false false false false = b) := Lib.hid hbb
  dsimp only at HB
  clear hbb
  clear hps hqs hW
  have hsp : Hid (shapeV ⟨4, vnum, vtx, vpa, vpl, vpc, vqa, vql, vqc, vopn, vka, vkl, vkc⟩ p (q.map (·.1)) = (b && (((vnum == 1 || vnum == 2) || vnum == 3) || vnum == 5))) := Lib.hid (by simp [shapeV, HB2.out])
  cases h1 : (vnum == 1)
  · skip
    cases h2 : (vnum == 2)
    · skip
      cases h3 : (vnum == 3)
      · skip
        cases h5 : (vnum == 5)
        · skip
          cases b
          · have hR : Hid (shapeV ⟨4, vnum, vtx, vpa, vpl, vpc, vqa, vql, vqc, vopn, vka, vkl, vkc⟩ p (q.map (·.1)) = false) := Lib.hid (by rw [hsp.out]; simp [*])
            go_enter Tryd.func33, Tryd.ntmps33
            go_wp2_with (first | (go_at_call 46; (with_reducible refine HB.out.mono ?_); rintro e w2 ⟨rfl, hb2⟩; have hs2 := hb2.size; have hA : ∀ o, w2.cell? ⟨w.heap.size, o, none⟩ = #[.int .i64 4, .int .i64 vnum, .string vtx, .slice vpa vpl vpc, .slice vqa vql vqc, .bool vopn, .slice vka vkl vkc][o]? := fun o => (hb2.cell (p := ⟨w.heap.size, o, none⟩) hl0).trans (cells_of NA.out o)))
            go_ret
            exact ⟨ret_bool hR.out.symm, hb1.trans (hb2.mono hs1)⟩
          · have hR : Hid (shapeV ⟨4, vnum, vtx, vpa, vpl, vpc, vqa, vql, vqc, vopn, vka, vkl, vkc⟩ p (q.map (·.1)) = false) := Lib.hid (by rw [hsp.out]; simp [*])
            go_enter Tryd.func33, Tryd.ntmps33
            go_wp2_with (first | (go_at_call 46; (with_reducible refine HB.out.mono ?_); rintro e w2 ⟨rfl, hb2⟩; have hs2 := hb2.size; have hA : ∀ o, w2.cell? ⟨w.heap.size, o, none⟩ = #[.int .i64 4, .int .i64 vnum, .string vtx, .slice vpa vpl vpc, .slice vqa vql vqc, .bool vopn, .slice vka vkl vkc][o]? := fun o => (hb2.cell (p := ⟨w.heap.size, o, none⟩) hl0).trans (cells_of NA.out o)))
            go_ret
            exact ⟨ret_bool hR.out.symm, hb1.trans (hb2.mono hs1)⟩
        · skip
          cases b
          · have hR : Hid (shapeV ⟨4, vnum, vtx, vpa, vpl, vpc, vqa, vql, vqc, vopn, vka, vkl, vkc⟩ p (q.map (·.1)) = false) := Lib.hid (by rw [hsp.out]; simp [*])
            go_enter Tryd.func33, Tryd.ntmps33
            go_wp2_with (first | (go_at_call 46; (with_reducible refine HB.out.mono ?_); rintro e w2 ⟨rfl, hb2⟩; have hs2 := hb2.size; have hA : ∀ o, w2.cell? ⟨w.heap.size, o, none⟩ = #[.int .i64 4, .int .i64 vnum, .string vtx, .slice vpa vpl vpc, .slice vqa vql vqc, .bool vopn, .slice vka vkl vkc][o]? := fun o => (hb2.cell (p := ⟨w.heap.size, o, none⟩) hl0).trans (cells_of NA.out o)))
            go_ret
            exact ⟨ret_bool hR.out.symm, hb1.trans (hb2.mono hs1)⟩
          · have hR : Hid (shapeV ⟨4, vnum, vtx, vpa, vpl, vpc, vqa, vql, vqc, vopn, vka, vkl, vkc⟩ p (q.map (·.1)) = true) := Lib.hid (by rw [hsp.out]; simp [*])
            go_enter Tryd.func33, Tryd.ntmps33
            go_wp2_with (first | (go_at_call 46; (with_reducible refine HB.out.mono ?_); rintro e w2 ⟨rfl, hb2⟩; have hs2 := hb2.size; have hA : ∀ o, w2.cell? ⟨w.heap.size, o, none⟩ = #[.int .i64 4, .int .i64 vnum, .string vtx, .slice vpa vpl vpc, .slice vqa vql vqc, .bool vopn, .slice vka vkl vkc][o]? := fun o => (hb2.cell (p := ⟨w.heap.size, o, none⟩) hl0).trans (cells_of NA.out o)))
            go_ret
            exact ⟨ret_bool hR.out.symm, hb1.trans (hb2.mono hs1)⟩
      · skip
        cases b
        · have hR : Hid (shapeV ⟨4, vnum, vtx, vpa, vpl, vpc, vqa, vql, vqc, vopn, vka, vkl, vkc⟩ p (q.map (·.1)) = false) := Lib.hid (by rw [hsp.out]; simp [*])
          go_enter Tryd.func33, Tryd.ntmps33
          go_wp2_with (first | (go_at_call 46; (with_reducible refine HB.out.mono ?_); rintro e w2 ⟨rfl, hb2⟩; have hs2 := hb2.size; have hA : ∀ o, w2.cell? ⟨w.heap.size, o, none⟩ = #[.int .i64 4, .int .i64 vnum, .string vtx, .slice vpa vpl vpc, .slice vqa vql vqc, .bool vopn, .slice vka vkl vkc][o]? := fun o => (hb2.cell (p := ⟨w.heap.size, o, none⟩) hl0).trans (cells_of NA.out o)))
          go_ret
          exact ⟨ret_bool hR.out.symm, hb1.trans (hb2.mono hs1)⟩
        · have hR : Hid (shapeV ⟨4, vnum, vtx, vpa, vpl, vpc, vqa, vql, vqc, vopn, vka, vkl, vkc⟩ p (q.map (·.1)) = true) := Lib.hid (by rw [hsp.out]; simp [*])
          go_enter Tryd.func33, Tryd.ntmps33
          go_wp2_with (first | (go_at_call 46; (with_reducible refine HB.out.mono ?_); rintro e w2 ⟨rfl, hb2⟩; have hs2 := hb2.size; have hA : ∀ o, w2.cell? ⟨w.heap.size, o, none⟩ = #[.int .i64 4, .int .i64 vnum, .string vtx, .slice vpa vpl vpc, .slice vqa vql vqc, .bool vopn, .slice vka vkl vkc][o]? := fun o => (hb2.cell (p := ⟨w.heap.size, o, none⟩) hl0).trans (cells_of NA.out o)))
          go_ret
          exact ⟨ret_bool hR.out.symm, hb1.trans (hb2.mono hs1)⟩
    · skip
      cases b
      · have hR : Hid (shapeV ⟨4, vnum, vtx, vpa, vpl, vpc, vqa, vql, vqc, vopn, vka, vkl, vkc⟩ p (q.map (·.1)) = false) := Lib.hid (by rw [hsp.out]; simp [*])
        go_enter Tryd.func33, Tryd.ntmps33
        go_wp2_with (first | (go_at_call 46; (with_reducible refine HB.out.mono ?_); rintro e w2 ⟨rfl, hb2⟩; have hs2 := hb2.size; have hA : ∀ o, w2.cell? ⟨w.heap.size, o, none⟩ = #[.int .i64 4, .int .i64 vnum, .string vtx, .slice vpa vpl vpc, .slice vqa vql vqc, .bool vopn, .slice vka vkl vkc][o]? := fun o => (hb2.cell (p := ⟨w.heap.size, o, none⟩) hl0).trans (cells_of NA.out o)))
        go_ret
        exact ⟨ret_bool hR.out.symm, hb1.trans (hb2.mono hs1)⟩
      · have hR : Hid (shapeV ⟨4, vnum, vtx, vpa, vpl, vpc, vqa, vql, vqc, vopn, vka, vkl, vkc⟩ p (q.map (·.1)) = true) := Lib.hid (by rw [hsp.out]; simp [*])
        go_enter Tryd.func33, Tryd.ntmps33
        go_wp2_with (first | (go_at_call 46; (with_reducible refine HB.out.mono ?_); rintro e w2 ⟨rfl, hb2⟩; have hs2 := hb2.size; have hA : ∀ o, w2.cell? ⟨w.heap.size, o, none⟩ = #[.int .i64 4, .int .i64 vnum, .string vtx, .slice vpa vpl vpc, .slice vqa vql vqc, .bool vopn, .slice vka vkl vkc][o]? := fun o => (hb2.cell (p := ⟨w.heap.size, o, none⟩) hl0).trans (cells_of NA.out o)))
        go_ret
        exact ⟨ret_bool hR.out.symm, hb1.trans (hb2.mono hs1)⟩
  · skip
    cases b
    · have hR : Hid (shapeV ⟨4, vnum, vtx, vpa, vpl, vpc, vqa, vql, vqc, vopn, vka, vkl, vkc⟩ p (q.map (·.1)) = false) := Lib.hid (by rw [hsp.out]; simp [*])
      go_enter Tryd.func33, Tryd.ntmps33
      go_wp2_with (first | (go_at_call 46; (with_reducible refine HB.out.mono ?_); rintro e w2 ⟨rfl, hb2⟩; have hs2 := hb2.size; have hA : ∀ o, w2.cell? ⟨w.heap.size, o, none⟩ = #[.int .i64 4, .int .i64 vnum, .string vtx, .slice vpa vpl vpc, .slice vqa vql vqc, .bool vopn, .slice vka vkl vkc][o]? := fun o => (hb2.cell (p := ⟨w.heap.size, o, none⟩) hl0).trans (cells_of NA.out o)))
      go_ret
      exact ⟨ret_bool hR.out.symm, hb1.trans (hb2.mono hs1)⟩
    · have hR : Hid (shapeV ⟨4, vnum, vtx, vpa, vpl, vpc, vqa, vql, vqc, vopn, vka, vkl, vkc⟩ p (q.map (·.1)) = true) := Lib.hid (by rw [hsp.out]; simp [*])
      go_enter Tryd.func33, Tryd.ntmps33
      go_wp2_with (first | (go_at_call 46; (with_reducible refine HB.out.mono ?_); rintro e w2 ⟨rfl, hb2⟩; have hs2 := hb2.size; have hA : ∀ o, w2.cell? ⟨w.heap.size, o, none⟩ = #[.int .i64 4, .int .i64 vnum, .string vtx, .slice vpa vpl vpc, .slice vqa vql vqc, .bool vopn, .slice vka vkl vkc][o]? := fun o => (hb2.cell (p := ⟨w.heap.size, o, none⟩) hl0).trans (cells_of NA.out o)))
      go_ret
      exact ⟨ret_bool hR.out.symm, hb1.trans (hb2.mono hs1)⟩
set_option maxRecDepth 100000 in
set_option maxHeartbeats 8000000 in
theorem shaped_5 (n B : Nat) (vnum : Int) (vtx : ByteArray) (vpa : Option Addr) (vpl vpc : Nat) (vqa : Option Addr) (vql vqc : Nat) (vopn : Bool) (vka : Option Addr) (vkl vkc : Nat) (p : List ByteArray) (q : List (ByteArray × Ex n)) (w : World) (hB : B ≤ w.heap.size) (hW : Words w) (hps : StrsIn w B vpa vpl p) (hqs : PairsIn (ExIn w B n) w B vqa vql q) : Calls Tryd.prog 33 #[.agg #[.int .i64 5, .int .i64 vnum, .string vtx, .slice vpa vpl vpc, .slice vqa vql vqc, .bool vopn, .slice vka vkl vkc]] w fun e w' => e = .returned (.bool (shapeV ⟨5, vnum, vtx, vpa, vpl, vpc, vqa, vql, vqc, vopn, vka, vkl, vkc⟩ p (q.map (·.1)))) ∧ Below w.heap.size w w' := by
  have hp0 := hW.pos
  have hu := And.intro hB (And.intro hps hqs)
  clear hu
  have hb1 := bel1 w (.cells #[.int .i64 5, .int .i64 vnum, .string vtx, .slice vpa vpl vpc, .slice vqa vql vqc, .bool vopn, .slice vka vkl vkc] 26)
  have NA := Lib.hid (new_cells w #[.int .i64 5, .int .i64 vnum, .string vtx, .slice vpa vpl vpc, .slice vqa vql vqc, .bool vopn, .slice vka vkl vkc] 26)
  have hs1 := hb1.size
  have hl0 : w.heap.size < (w.alloc (.cells #[.int .i64 5, .int .i64 vnum, .string vtx, .slice vpa vpl vpc, .slice vqa vql vqc, .bool vopn, .slice vka vkl vkc] 26)).heap.size := by simp
  have HB := Lib.hid (bare_5 ⟨5, vnum, vtx, vpa, vpl, vpc, vqa, vql, vqc, vopn, vka, vkl, vkc⟩ (w.alloc (.cells #[.int .i64 5, .int .i64 vnum, .string vtx, .slice vpa vpl vpc, .slice vqa vql vqc, .bool vopn, .slice vka vkl vkc] 26)))
  generalize hbb : bareV ⟨5, vnum, vtx, vpa, vpl, vpc, vqa, vql, vqc, vopn, vka, vkl, vkc⟩ false false false false false = b at HB
  have HB2 : Hid (bareV ⟨5, vnum, vtx, vpa, vpl, vpc, vqa, vql, vqc, vopn, vka, vkl, vkc⟩ false false false false false = b) := Lib.hid hbb
  dsimp only at HB
  clear hbb
  clear hps hqs hW
  have hR : Hid (shapeV ⟨5, vnum, vtx, vpa, vpl, vpc, vqa, vql, vqc, vopn, vka, vkl, vkc⟩ p (q.map (·.1)) = b) := Lib.hid (by simp [shapeV, HB2.out])
  go_enter Tryd.func33, Tryd.ntmps33
  go_wp2_with (first | (go_at_call 46; (with_reducible refine HB.out.mono ?_); rintro e w2 ⟨rfl, hb2⟩; have hs2 := hb2.size; have hA : ∀ o, w2.cell? ⟨w.heap.size, o, none⟩ = #[.int .i64 5, .int .i64 vnum, .string vtx, .slice vpa vpl vpc, .slice vqa vql vqc, .bool vopn, .slice vka vkl vkc][o]? := fun o => (hb2.cell (p := ⟨w.heap.size, o, none⟩) hl0).trans (cells_of NA.out o)))
  go_ret
  exact ⟨ret_bool hR.out.symm, hb1.trans (hb2.mono hs1)⟩
set_option maxRecDepth 100000 in
set_option maxHeartbeats 8000000 in
theorem shaped_6 (n B : Nat) (vnum : Int) (vtx : ByteArray) (vpa : Option Addr) (vpl vpc : Nat) (vqa : Option Addr) (vql vqc : Nat) (vopn : Bool) (vka : Option Addr) (vkl vkc : Nat) (p : List ByteArray) (q : List (ByteArray × Ex n)) (w : World) (hB : B ≤ w.heap.size) (hW : Words w) (hps : StrsIn w B vpa vpl p) (hqs : PairsIn (ExIn w B n) w B vqa vql q) : Calls Tryd.prog 33 #[.agg #[.int .i64 6, .int .i64 vnum, .string vtx, .slice vpa vpl vpc, .slice vqa vql vqc, .bool vopn, .slice vka vkl vkc]] w fun e w' => e = .returned (.bool (shapeV ⟨6, vnum, vtx, vpa, vpl, vpc, vqa, vql, vqc, vopn, vka, vkl, vkc⟩ p (q.map (·.1)))) ∧ Below w.heap.size w w' := by
  have hp0 := hW.pos
  have hu := And.intro hB (And.intro hps hqs)
  clear hu
  have hb1 := bel1 w (.cells #[.int .i64 6, .int .i64 vnum, .string vtx, .slice vpa vpl vpc, .slice vqa vql vqc, .bool vopn, .slice vka vkl vkc] 26)
  have NA := Lib.hid (new_cells w #[.int .i64 6, .int .i64 vnum, .string vtx, .slice vpa vpl vpc, .slice vqa vql vqc, .bool vopn, .slice vka vkl vkc] 26)
  have hs1 := hb1.size
  have hl0 : w.heap.size < (w.alloc (.cells #[.int .i64 6, .int .i64 vnum, .string vtx, .slice vpa vpl vpc, .slice vqa vql vqc, .bool vopn, .slice vka vkl vkc] 26)).heap.size := by simp
  have HB := Lib.hid (bare_5 ⟨6, vnum, vtx, vpa, vpl, vpc, vqa, vql, vqc, vopn, vka, vkl, vkc⟩ (w.alloc (.cells #[.int .i64 6, .int .i64 vnum, .string vtx, .slice vpa vpl vpc, .slice vqa vql vqc, .bool vopn, .slice vka vkl vkc] 26)))
  generalize hbb : bareV ⟨6, vnum, vtx, vpa, vpl, vpc, vqa, vql, vqc, vopn, vka, vkl, vkc⟩ false false false false false = b at HB
  have HB2 : Hid (bareV ⟨6, vnum, vtx, vpa, vpl, vpc, vqa, vql, vqc, vopn, vka, vkl, vkc⟩ false false false false false = b) := Lib.hid hbb
  dsimp only at HB
  clear hbb
  clear hps hqs hW
  have hR : Hid (shapeV ⟨6, vnum, vtx, vpa, vpl, vpc, vqa, vql, vqc, vopn, vka, vkl, vkc⟩ p (q.map (·.1)) = b) := Lib.hid (by simp [shapeV, HB2.out])
  go_enter Tryd.func33, Tryd.ntmps33
  go_wp2_with (first | (go_at_call 46; (with_reducible refine HB.out.mono ?_); rintro e w2 ⟨rfl, hb2⟩; have hs2 := hb2.size; have hA : ∀ o, w2.cell? ⟨w.heap.size, o, none⟩ = #[.int .i64 6, .int .i64 vnum, .string vtx, .slice vpa vpl vpc, .slice vqa vql vqc, .bool vopn, .slice vka vkl vkc][o]? := fun o => (hb2.cell (p := ⟨w.heap.size, o, none⟩) hl0).trans (cells_of NA.out o)))
  go_ret
  exact ⟨ret_bool hR.out.symm, hb1.trans (hb2.mono hs1)⟩
set_option maxRecDepth 100000 in
set_option maxHeartbeats 8000000 in
theorem shaped_9 (n B : Nat) (vnum : Int) (vtx : ByteArray) (vpa : Option Addr) (vpl vpc : Nat) (vqa : Option Addr) (vql vqc : Nat) (vopn : Bool) (vka : Option Addr) (vkl vkc : Nat) (p : List ByteArray) (q : List (ByteArray × Ex n)) (w : World) (hB : B ≤ w.heap.size) (hW : Words w) (hps : StrsIn w B vpa vpl p) (hqs : PairsIn (ExIn w B n) w B vqa vql q) : Calls Tryd.prog 33 #[.agg #[.int .i64 9, .int .i64 vnum, .string vtx, .slice vpa vpl vpc, .slice vqa vql vqc, .bool vopn, .slice vka vkl vkc]] w fun e w' => e = .returned (.bool (shapeV ⟨9, vnum, vtx, vpa, vpl, vpc, vqa, vql, vqc, vopn, vka, vkl, vkc⟩ p (q.map (·.1)))) ∧ Below w.heap.size w w' := by
  have hp0 := hW.pos
  have hu := And.intro hB (And.intro hps hqs)
  clear hu
  have hb1 := bel1 w (.cells #[.int .i64 9, .int .i64 vnum, .string vtx, .slice vpa vpl vpc, .slice vqa vql vqc, .bool vopn, .slice vka vkl vkc] 26)
  have NA := Lib.hid (new_cells w #[.int .i64 9, .int .i64 vnum, .string vtx, .slice vpa vpl vpc, .slice vqa vql vqc, .bool vopn, .slice vka vkl vkc] 26)
  have hs1 := hb1.size
  have hl0 : w.heap.size < (w.alloc (.cells #[.int .i64 9, .int .i64 vnum, .string vtx, .slice vpa vpl vpc, .slice vqa vql vqc, .bool vopn, .slice vka vkl vkc] 26)).heap.size := by simp
  have HB := Lib.hid (bare_2 ⟨9, vnum, vtx, vpa, vpl, vpc, vqa, vql, vqc, vopn, vka, vkl, vkc⟩ (w.alloc (.cells #[.int .i64 9, .int .i64 vnum, .string vtx, .slice vpa vpl vpc, .slice vqa vql vqc, .bool vopn, .slice vka vkl vkc] 26)))
  generalize hbb : bareV ⟨9, vnum, vtx, vpa, vpl, vpc, vqa, vql, vqc, vopn, vka, vkl, vkc⟩ false false true false false = b at HB
  have HB2 : Hid (bareV ⟨9, vnum, vtx, vpa, vpl, vpc, vqa, vql, vqc, vopn, vka, vkl, vkc⟩ false false true false false = b) := Lib.hid hbb
  dsimp only at HB
  clear hbb
  generalize hni : path p = c
  have HNI := Lib.hid hni
  have HI : Hid (∀ W, Below w.heap.size w W → Calls Tryd.prog 48 #[.slice vpa vpl vpc] W fun e w' => e = .returned (.bool c) ∧ Below W.heap.size W w') := Lib.hid (fun W h => by
    have h1 := hps.kept (h.mono hB)
    rw [hps.1] at h1 ⊢
    rw [← hni]
    exact path_any B vpa vpc p W (by have := h.size; omega) (hW.below h hp0) h1)
  clear hps hqs hW
  cases b
  · have hR : Hid (shapeV ⟨9, vnum, vtx, vpa, vpl, vpc, vqa, vql, vqc, vopn, vka, vkl, vkc⟩ p (q.map (·.1)) = false) := Lib.hid (by simp [shapeV, HB2.out])
    clear hni
    go_enter Tryd.func33, Tryd.ntmps33
    go_wp2_with (first | (go_at_call 46; (with_reducible refine HB.out.mono ?_); rintro e w2 ⟨rfl, hb2⟩; have hs2 := hb2.size; have hA : ∀ o, w2.cell? ⟨w.heap.size, o, none⟩ = #[.int .i64 9, .int .i64 vnum, .string vtx, .slice vpa vpl vpc, .slice vqa vql vqc, .bool vopn, .slice vka vkl vkc][o]? := fun o => (hb2.cell (p := ⟨w.heap.size, o, none⟩) hl0).trans (cells_of NA.out o)))
    go_ret
    exact ⟨ret_bool hR.out.symm, hb1.trans (hb2.mono hs1)⟩
  · have hR : Hid (shapeV ⟨9, vnum, vtx, vpa, vpl, vpc, vqa, vql, vqc, vopn, vka, vkl, vkc⟩ p (q.map (·.1)) = c) := Lib.hid (by simp [shapeV, HB2.out, hni])
    clear hni
    go_enter Tryd.func33, Tryd.ntmps33
    go_wp2_with (first | (go_at_call 46; (with_reducible refine HB.out.mono ?_); rintro e w2 ⟨rfl, hb2⟩; have hs2 := hb2.size; have hA : ∀ o, w2.cell? ⟨w.heap.size, o, none⟩ = #[.int .i64 9, .int .i64 vnum, .string vtx, .slice vpa vpl vpc, .slice vqa vql vqc, .bool vopn, .slice vka vkl vkc][o]? := fun o => (hb2.cell (p := ⟨w.heap.size, o, none⟩) hl0).trans (cells_of NA.out o)) | (go_at_call 48; (with_reducible refine (HI.out _ (hb1.trans (hb2.mono hs1))).mono ?_); rintro e w3 ⟨rfl, hb3⟩))
    go_ret
    exact ⟨ret_bool hR.out.symm, hb1.trans ((hb2.trans (hb3.mono hs2)).mono hs1)⟩
set_option maxRecDepth 100000 in
set_option maxHeartbeats 8000000 in
theorem shaped_10 (n B : Nat) (vnum : Int) (vtx : ByteArray) (vpa : Option Addr) (vpl vpc : Nat) (vqa : Option Addr) (vql vqc : Nat) (vopn : Bool) (vka : Option Addr) (vkl vkc : Nat) (p : List ByteArray) (q : List (ByteArray × Ex n)) (w : World) (hB : B ≤ w.heap.size) (hW : Words w) (hps : StrsIn w B vpa vpl p) (hqs : PairsIn (ExIn w B n) w B vqa vql q) : Calls Tryd.prog 33 #[.agg #[.int .i64 10, .int .i64 vnum, .string vtx, .slice vpa vpl vpc, .slice vqa vql vqc, .bool vopn, .slice vka vkl vkc]] w fun e w' => e = .returned (.bool (shapeV ⟨10, vnum, vtx, vpa, vpl, vpc, vqa, vql, vqc, vopn, vka, vkl, vkc⟩ p (q.map (·.1)))) ∧ Below w.heap.size w w' := by
  have hp0 := hW.pos
  have hu := And.intro hB (And.intro hps hqs)
  clear hu
  have hb1 := bel1 w (.cells #[.int .i64 10, .int .i64 vnum, .string vtx, .slice vpa vpl vpc, .slice vqa vql vqc, .bool vopn, .slice vka vkl vkc] 26)
  have NA := Lib.hid (new_cells w #[.int .i64 10, .int .i64 vnum, .string vtx, .slice vpa vpl vpc, .slice vqa vql vqc, .bool vopn, .slice vka vkl vkc] 26)
  have hs1 := hb1.size
  have hl0 : w.heap.size < (w.alloc (.cells #[.int .i64 10, .int .i64 vnum, .string vtx, .slice vpa vpl vpc, .slice vqa vql vqc, .bool vopn, .slice vka vkl vkc] 26)).heap.size := by simp
  have HB := Lib.hid (bare_3 ⟨10, vnum, vtx, vpa, vpl, vpc, vqa, vql, vqc, vopn, vka, vkl, vkc⟩ (w.alloc (.cells #[.int .i64 10, .int .i64 vnum, .string vtx, .slice vpa vpl vpc, .slice vqa vql vqc, .bool vopn, .slice vka vkl vkc] 26)))
  generalize hbb : bareV ⟨10, vnum, vtx, vpa, vpl, vpc, vqa, vql, vqc, vopn, vka, vkl, vkc⟩ false false false true false = b at HB
  have HB2 : Hid (bareV ⟨10, vnum, vtx, vpa, vpl, vpc, vqa, vql, vqc, vopn, vka, vkl, vkc⟩ false false false true false = b) := Lib.hid hbb
  dsimp only at HB
  clear hbb
  generalize hni : rising (q.map (·.1)) = c
  have HNI := Lib.hid hni
  have HI : Hid (∀ W, Below w.heap.size w W → Calls Tryd.prog 49 #[.slice vqa vql vqc] W fun e w' => e = .returned (.bool c) ∧ Below W.heap.size W w') := Lib.hid (fun W h => by
    rw [← hni]
    exact rising_any n B vqa vql vqc q W (by have := h.size; omega) (hW.below h hp0) (PairsIn.kept hqs h hB))
  clear hps hqs hW
  cases b
  · have hR : Hid (shapeV ⟨10, vnum, vtx, vpa, vpl, vpc, vqa, vql, vqc, vopn, vka, vkl, vkc⟩ p (q.map (·.1)) = false) := Lib.hid (by simp [shapeV, HB2.out])
    clear hni
    go_enter Tryd.func33, Tryd.ntmps33
    go_wp2_with (first | (go_at_call 46; (with_reducible refine HB.out.mono ?_); rintro e w2 ⟨rfl, hb2⟩; have hs2 := hb2.size; have hA : ∀ o, w2.cell? ⟨w.heap.size, o, none⟩ = #[.int .i64 10, .int .i64 vnum, .string vtx, .slice vpa vpl vpc, .slice vqa vql vqc, .bool vopn, .slice vka vkl vkc][o]? := fun o => (hb2.cell (p := ⟨w.heap.size, o, none⟩) hl0).trans (cells_of NA.out o)))
    go_ret
    exact ⟨ret_bool hR.out.symm, hb1.trans (hb2.mono hs1)⟩
  · by_cases hz : (vql : Int) ≤ 32
    · have hR : Hid (shapeV ⟨10, vnum, vtx, vpa, vpl, vpc, vqa, vql, vqc, vopn, vka, vkl, vkc⟩ p (q.map (·.1)) = c) := Lib.hid (by simp [shapeV, HB2.out, hni]; omega)
      clear hni
      go_enter Tryd.func33, Tryd.ntmps33
      go_wp2_with (first | (go_at_call 46; (with_reducible refine HB.out.mono ?_); rintro e w2 ⟨rfl, hb2⟩; have hs2 := hb2.size; have hA : ∀ o, w2.cell? ⟨w.heap.size, o, none⟩ = #[.int .i64 10, .int .i64 vnum, .string vtx, .slice vpa vpl vpc, .slice vqa vql vqc, .bool vopn, .slice vka vkl vkc][o]? := fun o => (hb2.cell (p := ⟨w.heap.size, o, none⟩) hl0).trans (cells_of NA.out o)) | (go_at_call 49; (with_reducible refine (HI.out _ (hb1.trans (hb2.mono hs1))).mono ?_); rintro e w3 ⟨rfl, hb3⟩))
      go_ret
      exact ⟨ret_bool hR.out.symm, hb1.trans ((hb2.trans (hb3.mono hs2)).mono hs1)⟩
    · have hR : Hid (shapeV ⟨10, vnum, vtx, vpa, vpl, vpc, vqa, vql, vqc, vopn, vka, vkl, vkc⟩ p (q.map (·.1)) = false) := Lib.hid (by simp [shapeV, HB2.out]; omega)
      have hz2 : (32 : Int) < (vql : Int) := by omega
      clear hni hz
      go_enter Tryd.func33, Tryd.ntmps33
      go_wp2_with (first | (go_at_call 46; (with_reducible refine HB.out.mono ?_); rintro e w2 ⟨rfl, hb2⟩; have hs2 := hb2.size; have hA : ∀ o, w2.cell? ⟨w.heap.size, o, none⟩ = #[.int .i64 10, .int .i64 vnum, .string vtx, .slice vpa vpl vpc, .slice vqa vql vqc, .bool vopn, .slice vka vkl vkc][o]? := fun o => (hb2.cell (p := ⟨w.heap.size, o, none⟩) hl0).trans (cells_of NA.out o)))
      go_ret
      exact ⟨ret_bool hR.out.symm, hb1.trans (hb2.mono hs1)⟩
set_option maxRecDepth 100000 in
set_option maxHeartbeats 8000000 in
theorem shaped_11 (n B : Nat) (vnum : Int) (vtx : ByteArray) (vpa : Option Addr) (vpl vpc : Nat) (vqa : Option Addr) (vql vqc : Nat) (vopn : Bool) (vka : Option Addr) (vkl vkc : Nat) (p : List ByteArray) (q : List (ByteArray × Ex n)) (w : World) (hB : B ≤ w.heap.size) (hW : Words w) (hps : StrsIn w B vpa vpl p) (hqs : PairsIn (ExIn w B n) w B vqa vql q) : Calls Tryd.prog 33 #[.agg #[.int .i64 11, .int .i64 vnum, .string vtx, .slice vpa vpl vpc, .slice vqa vql vqc, .bool vopn, .slice vka vkl vkc]] w fun e w' => e = .returned (.bool (shapeV ⟨11, vnum, vtx, vpa, vpl, vpc, vqa, vql, vqc, vopn, vka, vkl, vkc⟩ p (q.map (·.1)))) ∧ Below w.heap.size w w' := by
  have hp0 := hW.pos
  have hu := And.intro hB (And.intro hps hqs)
  clear hu
  have hb1 := bel1 w (.cells #[.int .i64 11, .int .i64 vnum, .string vtx, .slice vpa vpl vpc, .slice vqa vql vqc, .bool vopn, .slice vka vkl vkc] 26)
  have NA := Lib.hid (new_cells w #[.int .i64 11, .int .i64 vnum, .string vtx, .slice vpa vpl vpc, .slice vqa vql vqc, .bool vopn, .slice vka vkl vkc] 26)
  have hs1 := hb1.size
  have hl0 : w.heap.size < (w.alloc (.cells #[.int .i64 11, .int .i64 vnum, .string vtx, .slice vpa vpl vpc, .slice vqa vql vqc, .bool vopn, .slice vka vkl vkc] 26)).heap.size := by simp
  have HB := Lib.hid (bare_4 ⟨11, vnum, vtx, vpa, vpl, vpc, vqa, vql, vqc, vopn, vka, vkl, vkc⟩ (w.alloc (.cells #[.int .i64 11, .int .i64 vnum, .string vtx, .slice vpa vpl vpc, .slice vqa vql vqc, .bool vopn, .slice vka vkl vkc] 26)))
  generalize hbb : bareV ⟨11, vnum, vtx, vpa, vpl, vpc, vqa, vql, vqc, vopn, vka, vkl, vkc⟩ false false false false true = b at HB
  have HB2 : Hid (bareV ⟨11, vnum, vtx, vpa, vpl, vpc, vqa, vql, vqc, vopn, vka, vkl, vkc⟩ false false false false true = b) := Lib.hid hbb
  dsimp only at HB
  clear hbb
  clear hps hqs hW
  cases b
  · have hR : Hid (shapeV ⟨11, vnum, vtx, vpa, vpl, vpc, vqa, vql, vqc, vopn, vka, vkl, vkc⟩ p (q.map (·.1)) = false) := Lib.hid (by simp [shapeV, HB2.out])
    go_enter Tryd.func33, Tryd.ntmps33
    go_wp2_with (first | (go_at_call 46; (with_reducible refine HB.out.mono ?_); rintro e w2 ⟨rfl, hb2⟩; have hs2 := hb2.size; have hA : ∀ o, w2.cell? ⟨w.heap.size, o, none⟩ = #[.int .i64 11, .int .i64 vnum, .string vtx, .slice vpa vpl vpc, .slice vqa vql vqc, .bool vopn, .slice vka vkl vkc][o]? := fun o => (hb2.cell (p := ⟨w.heap.size, o, none⟩) hl0).trans (cells_of NA.out o)))
    go_ret
    exact ⟨ret_bool hR.out.symm, hb1.trans (hb2.mono hs1)⟩
  · by_cases hz : (2 : Int) ≤ (vkl : Int)
    · by_cases hy : (vkl : Int) ≤ 32
      · have hR : Hid (shapeV ⟨11, vnum, vtx, vpa, vpl, vpc, vqa, vql, vqc, vopn, vka, vkl, vkc⟩ p (q.map (·.1)) = true) := Lib.hid (by simp [shapeV, HB2.out]; omega)
        go_enter Tryd.func33, Tryd.ntmps33
        go_wp2_with (first | (go_at_call 46; (with_reducible refine HB.out.mono ?_); rintro e w2 ⟨rfl, hb2⟩; have hs2 := hb2.size; have hA : ∀ o, w2.cell? ⟨w.heap.size, o, none⟩ = #[.int .i64 11, .int .i64 vnum, .string vtx, .slice vpa vpl vpc, .slice vqa vql vqc, .bool vopn, .slice vka vkl vkc][o]? := fun o => (hb2.cell (p := ⟨w.heap.size, o, none⟩) hl0).trans (cells_of NA.out o)))
        go_ret
        exact ⟨ret_bool hR.out.symm, hb1.trans (hb2.mono hs1)⟩
      · have hR : Hid (shapeV ⟨11, vnum, vtx, vpa, vpl, vpc, vqa, vql, vqc, vopn, vka, vkl, vkc⟩ p (q.map (·.1)) = false) := Lib.hid (by simp [shapeV, HB2.out]; omega)
        have hy2 : (32 : Int) < (vkl : Int) := by omega
        clear hy
        go_enter Tryd.func33, Tryd.ntmps33
        go_wp2_with (first | (go_at_call 46; (with_reducible refine HB.out.mono ?_); rintro e w2 ⟨rfl, hb2⟩; have hs2 := hb2.size; have hA : ∀ o, w2.cell? ⟨w.heap.size, o, none⟩ = #[.int .i64 11, .int .i64 vnum, .string vtx, .slice vpa vpl vpc, .slice vqa vql vqc, .bool vopn, .slice vka vkl vkc][o]? := fun o => (hb2.cell (p := ⟨w.heap.size, o, none⟩) hl0).trans (cells_of NA.out o)))
        go_ret
        exact ⟨ret_bool (by rw [hR.out]; exact decide_eq_false (by omega)), hb1.trans (hb2.mono hs1)⟩
    · have hR : Hid (shapeV ⟨11, vnum, vtx, vpa, vpl, vpc, vqa, vql, vqc, vopn, vka, vkl, vkc⟩ p (q.map (·.1)) = false) := Lib.hid (by simp [shapeV, HB2.out]; omega)
      have hz2 : (vkl : Int) < 2 := by omega
      clear hz
      go_enter Tryd.func33, Tryd.ntmps33
      go_wp2_with (first | (go_at_call 46; (with_reducible refine HB.out.mono ?_); rintro e w2 ⟨rfl, hb2⟩; have hs2 := hb2.size; have hA : ∀ o, w2.cell? ⟨w.heap.size, o, none⟩ = #[.int .i64 11, .int .i64 vnum, .string vtx, .slice vpa vpl vpc, .slice vqa vql vqc, .bool vopn, .slice vka vkl vkc][o]? := fun o => (hb2.cell (p := ⟨w.heap.size, o, none⟩) hl0).trans (cells_of NA.out o)))
      go_ret
      exact ⟨ret_bool hR.out.symm, hb1.trans (hb2.mono hs1)⟩
set_option maxRecDepth 100000 in
set_option maxHeartbeats 8000000 in
theorem shaped_12 (n B : Nat) (vnum : Int) (vtx : ByteArray) (vpa : Option Addr) (vpl vpc : Nat) (vqa : Option Addr) (vql vqc : Nat) (vopn : Bool) (vka : Option Addr) (vkl vkc : Nat) (p : List ByteArray) (q : List (ByteArray × Ex n)) (w : World) (hB : B ≤ w.heap.size) (hW : Words w) (hps : StrsIn w B vpa vpl p) (hqs : PairsIn (ExIn w B n) w B vqa vql q) : Calls Tryd.prog 33 #[.agg #[.int .i64 12, .int .i64 vnum, .string vtx, .slice vpa vpl vpc, .slice vqa vql vqc, .bool vopn, .slice vka vkl vkc]] w fun e w' => e = .returned (.bool (shapeV ⟨12, vnum, vtx, vpa, vpl, vpc, vqa, vql, vqc, vopn, vka, vkl, vkc⟩ p (q.map (·.1)))) ∧ Below w.heap.size w w' := by
  have hp0 := hW.pos
  have hu := And.intro hB (And.intro hps hqs)
  clear hu
  have hb1 := bel1 w (.cells #[.int .i64 12, .int .i64 vnum, .string vtx, .slice vpa vpl vpc, .slice vqa vql vqc, .bool vopn, .slice vka vkl vkc] 26)
  have NA := Lib.hid (new_cells w #[.int .i64 12, .int .i64 vnum, .string vtx, .slice vpa vpl vpc, .slice vqa vql vqc, .bool vopn, .slice vka vkl vkc] 26)
  have hs1 := hb1.size
  have hl0 : w.heap.size < (w.alloc (.cells #[.int .i64 12, .int .i64 vnum, .string vtx, .slice vpa vpl vpc, .slice vqa vql vqc, .bool vopn, .slice vka vkl vkc] 26)).heap.size := by simp
  have HB := Lib.hid (bare_4 ⟨12, vnum, vtx, vpa, vpl, vpc, vqa, vql, vqc, vopn, vka, vkl, vkc⟩ (w.alloc (.cells #[.int .i64 12, .int .i64 vnum, .string vtx, .slice vpa vpl vpc, .slice vqa vql vqc, .bool vopn, .slice vka vkl vkc] 26)))
  generalize hbb : bareV ⟨12, vnum, vtx, vpa, vpl, vpc, vqa, vql, vqc, vopn, vka, vkl, vkc⟩ false false false false true = b at HB
  have HB2 : Hid (bareV ⟨12, vnum, vtx, vpa, vpl, vpc, vqa, vql, vqc, vopn, vka, vkl, vkc⟩ false false false false true = b) := Lib.hid hbb
  dsimp only at HB
  clear hbb
  clear hps hqs hW
  cases b
  · have hR : Hid (shapeV ⟨12, vnum, vtx, vpa, vpl, vpc, vqa, vql, vqc, vopn, vka, vkl, vkc⟩ p (q.map (·.1)) = false) := Lib.hid (by simp [shapeV, HB2.out])
    go_enter Tryd.func33, Tryd.ntmps33
    go_wp2_with (first | (go_at_call 46; (with_reducible refine HB.out.mono ?_); rintro e w2 ⟨rfl, hb2⟩; have hs2 := hb2.size; have hA : ∀ o, w2.cell? ⟨w.heap.size, o, none⟩ = #[.int .i64 12, .int .i64 vnum, .string vtx, .slice vpa vpl vpc, .slice vqa vql vqc, .bool vopn, .slice vka vkl vkc][o]? := fun o => (hb2.cell (p := ⟨w.heap.size, o, none⟩) hl0).trans (cells_of NA.out o)))
    go_ret
    exact ⟨ret_bool hR.out.symm, hb1.trans (hb2.mono hs1)⟩
  · by_cases hz : (2 : Int) ≤ (vkl : Int)
    · by_cases hy : (vkl : Int) ≤ 32
      · have hR : Hid (shapeV ⟨12, vnum, vtx, vpa, vpl, vpc, vqa, vql, vqc, vopn, vka, vkl, vkc⟩ p (q.map (·.1)) = true) := Lib.hid (by simp [shapeV, HB2.out]; omega)
        go_enter Tryd.func33, Tryd.ntmps33
        go_wp2_with (first | (go_at_call 46; (with_reducible refine HB.out.mono ?_); rintro e w2 ⟨rfl, hb2⟩; have hs2 := hb2.size; have hA : ∀ o, w2.cell? ⟨w.heap.size, o, none⟩ = #[.int .i64 12, .int .i64 vnum, .string vtx, .slice vpa vpl vpc, .slice vqa vql vqc, .bool vopn, .slice vka vkl vkc][o]? := fun o => (hb2.cell (p := ⟨w.heap.size, o, none⟩) hl0).trans (cells_of NA.out o)))
        go_ret
        exact ⟨ret_bool hR.out.symm, hb1.trans (hb2.mono hs1)⟩
      · have hR : Hid (shapeV ⟨12, vnum, vtx, vpa, vpl, vpc, vqa, vql, vqc, vopn, vka, vkl, vkc⟩ p (q.map (·.1)) = false) := Lib.hid (by simp [shapeV, HB2.out]; omega)
        have hy2 : (32 : Int) < (vkl : Int) := by omega
        clear hy
        go_enter Tryd.func33, Tryd.ntmps33
        go_wp2_with (first | (go_at_call 46; (with_reducible refine HB.out.mono ?_); rintro e w2 ⟨rfl, hb2⟩; have hs2 := hb2.size; have hA : ∀ o, w2.cell? ⟨w.heap.size, o, none⟩ = #[.int .i64 12, .int .i64 vnum, .string vtx, .slice vpa vpl vpc, .slice vqa vql vqc, .bool vopn, .slice vka vkl vkc][o]? := fun o => (hb2.cell (p := ⟨w.heap.size, o, none⟩) hl0).trans (cells_of NA.out o)))
        go_ret
        exact ⟨ret_bool (by rw [hR.out]; exact decide_eq_false (by omega)), hb1.trans (hb2.mono hs1)⟩
    · have hR : Hid (shapeV ⟨12, vnum, vtx, vpa, vpl, vpc, vqa, vql, vqc, vopn, vka, vkl, vkc⟩ p (q.map (·.1)) = false) := Lib.hid (by simp [shapeV, HB2.out]; omega)
      have hz2 : (vkl : Int) < 2 := by omega
      clear hz
      go_enter Tryd.func33, Tryd.ntmps33
      go_wp2_with (first | (go_at_call 46; (with_reducible refine HB.out.mono ?_); rintro e w2 ⟨rfl, hb2⟩; have hs2 := hb2.size; have hA : ∀ o, w2.cell? ⟨w.heap.size, o, none⟩ = #[.int .i64 12, .int .i64 vnum, .string vtx, .slice vpa vpl vpc, .slice vqa vql vqc, .bool vopn, .slice vka vkl vkc][o]? := fun o => (hb2.cell (p := ⟨w.heap.size, o, none⟩) hl0).trans (cells_of NA.out o)))
      go_ret
      exact ⟨ret_bool hR.out.symm, hb1.trans (hb2.mono hs1)⟩
set_option maxRecDepth 100000 in
set_option maxHeartbeats 8000000 in
theorem shaped_13 (n B : Nat) (vnum : Int) (vtx : ByteArray) (vpa : Option Addr) (vpl vpc : Nat) (vqa : Option Addr) (vql vqc : Nat) (vopn : Bool) (vka : Option Addr) (vkl vkc : Nat) (p : List ByteArray) (q : List (ByteArray × Ex n)) (w : World) (hB : B ≤ w.heap.size) (hW : Words w) (hps : StrsIn w B vpa vpl p) (hqs : PairsIn (ExIn w B n) w B vqa vql q) : Calls Tryd.prog 33 #[.agg #[.int .i64 13, .int .i64 vnum, .string vtx, .slice vpa vpl vpc, .slice vqa vql vqc, .bool vopn, .slice vka vkl vkc]] w fun e w' => e = .returned (.bool (shapeV ⟨13, vnum, vtx, vpa, vpl, vpc, vqa, vql, vqc, vopn, vka, vkl, vkc⟩ p (q.map (·.1)))) ∧ Below w.heap.size w w' := by
  have hp0 := hW.pos
  have hu := And.intro hB (And.intro hps hqs)
  clear hu
  have hb1 := bel1 w (.cells #[.int .i64 13, .int .i64 vnum, .string vtx, .slice vpa vpl vpc, .slice vqa vql vqc, .bool vopn, .slice vka vkl vkc] 26)
  have NA := Lib.hid (new_cells w #[.int .i64 13, .int .i64 vnum, .string vtx, .slice vpa vpl vpc, .slice vqa vql vqc, .bool vopn, .slice vka vkl vkc] 26)
  have hs1 := hb1.size
  have hl0 : w.heap.size < (w.alloc (.cells #[.int .i64 13, .int .i64 vnum, .string vtx, .slice vpa vpl vpc, .slice vqa vql vqc, .bool vopn, .slice vka vkl vkc] 26)).heap.size := by simp
  have HB := Lib.hid (bare_4 ⟨13, vnum, vtx, vpa, vpl, vpc, vqa, vql, vqc, vopn, vka, vkl, vkc⟩ (w.alloc (.cells #[.int .i64 13, .int .i64 vnum, .string vtx, .slice vpa vpl vpc, .slice vqa vql vqc, .bool vopn, .slice vka vkl vkc] 26)))
  generalize hbb : bareV ⟨13, vnum, vtx, vpa, vpl, vpc, vqa, vql, vqc, vopn, vka, vkl, vkc⟩ false false false false true = b at HB
  have HB2 : Hid (bareV ⟨13, vnum, vtx, vpa, vpl, vpc, vqa, vql, vqc, vopn, vka, vkl, vkc⟩ false false false false true = b) := Lib.hid hbb
  dsimp only at HB
  clear hbb
  clear hps hqs hW
  have hsp : Hid (shapeV ⟨13, vnum, vtx, vpa, vpl, vpc, vqa, vql, vqc, vopn, vka, vkl, vkc⟩ p (q.map (·.1)) = (b && ((vkl : Int) == 2))) := Lib.hid (by simp [shapeV, HB2.out])
  cases b
  · have hR : Hid (shapeV ⟨13, vnum, vtx, vpa, vpl, vpc, vqa, vql, vqc, vopn, vka, vkl, vkc⟩ p (q.map (·.1)) = false) := Lib.hid (by rw [hsp.out]; rfl)
    go_enter Tryd.func33, Tryd.ntmps33
    go_wp2_with (first | (go_at_call 46; (with_reducible refine HB.out.mono ?_); rintro e w2 ⟨rfl, hb2⟩; have hs2 := hb2.size; have hA : ∀ o, w2.cell? ⟨w.heap.size, o, none⟩ = #[.int .i64 13, .int .i64 vnum, .string vtx, .slice vpa vpl vpc, .slice vqa vql vqc, .bool vopn, .slice vka vkl vkc][o]? := fun o => (hb2.cell (p := ⟨w.heap.size, o, none⟩) hl0).trans (cells_of NA.out o)))
    go_ret
    exact ⟨ret_bool hR.out.symm, hb1.trans (hb2.mono hs1)⟩
  · cases hz : ((vkl : Int) == 2)
    · have hR : Hid (shapeV ⟨13, vnum, vtx, vpa, vpl, vpc, vqa, vql, vqc, vopn, vka, vkl, vkc⟩ p (q.map (·.1)) = false) := Lib.hid (by rw [hsp.out, hz]; rfl)
      go_enter Tryd.func33, Tryd.ntmps33
      go_wp2_with (first | (go_at_call 46; (with_reducible refine HB.out.mono ?_); rintro e w2 ⟨rfl, hb2⟩; have hs2 := hb2.size; have hA : ∀ o, w2.cell? ⟨w.heap.size, o, none⟩ = #[.int .i64 13, .int .i64 vnum, .string vtx, .slice vpa vpl vpc, .slice vqa vql vqc, .bool vopn, .slice vka vkl vkc][o]? := fun o => (hb2.cell (p := ⟨w.heap.size, o, none⟩) hl0).trans (cells_of NA.out o)))
      go_ret
      exact ⟨ret_bool hR.out.symm, hb1.trans (hb2.mono hs1)⟩
    · have hR : Hid (shapeV ⟨13, vnum, vtx, vpa, vpl, vpc, vqa, vql, vqc, vopn, vka, vkl, vkc⟩ p (q.map (·.1)) = true) := Lib.hid (by rw [hsp.out, hz]; rfl)
      go_enter Tryd.func33, Tryd.ntmps33
      go_wp2_with (first | (go_at_call 46; (with_reducible refine HB.out.mono ?_); rintro e w2 ⟨rfl, hb2⟩; have hs2 := hb2.size; have hA : ∀ o, w2.cell? ⟨w.heap.size, o, none⟩ = #[.int .i64 13, .int .i64 vnum, .string vtx, .slice vpa vpl vpc, .slice vqa vql vqc, .bool vopn, .slice vka vkl vkc][o]? := fun o => (hb2.cell (p := ⟨w.heap.size, o, none⟩) hl0).trans (cells_of NA.out o)))
      go_ret
      exact ⟨ret_bool hR.out.symm, hb1.trans (hb2.mono hs1)⟩
set_option maxRecDepth 100000 in
set_option maxHeartbeats 8000000 in
theorem shaped_14 (n B : Nat) (vnum : Int) (vtx : ByteArray) (vpa : Option Addr) (vpl vpc : Nat) (vqa : Option Addr) (vql vqc : Nat) (vopn : Bool) (vka : Option Addr) (vkl vkc : Nat) (p : List ByteArray) (q : List (ByteArray × Ex n)) (w : World) (hB : B ≤ w.heap.size) (hW : Words w) (hps : StrsIn w B vpa vpl p) (hqs : PairsIn (ExIn w B n) w B vqa vql q) : Calls Tryd.prog 33 #[.agg #[.int .i64 14, .int .i64 vnum, .string vtx, .slice vpa vpl vpc, .slice vqa vql vqc, .bool vopn, .slice vka vkl vkc]] w fun e w' => e = .returned (.bool (shapeV ⟨14, vnum, vtx, vpa, vpl, vpc, vqa, vql, vqc, vopn, vka, vkl, vkc⟩ p (q.map (·.1)))) ∧ Below w.heap.size w w' := by
  have hp0 := hW.pos
  have hu := And.intro hB (And.intro hps hqs)
  clear hu
  have hb1 := bel1 w (.cells #[.int .i64 14, .int .i64 vnum, .string vtx, .slice vpa vpl vpc, .slice vqa vql vqc, .bool vopn, .slice vka vkl vkc] 26)
  have NA := Lib.hid (new_cells w #[.int .i64 14, .int .i64 vnum, .string vtx, .slice vpa vpl vpc, .slice vqa vql vqc, .bool vopn, .slice vka vkl vkc] 26)
  have hs1 := hb1.size
  have hl0 : w.heap.size < (w.alloc (.cells #[.int .i64 14, .int .i64 vnum, .string vtx, .slice vpa vpl vpc, .slice vqa vql vqc, .bool vopn, .slice vka vkl vkc] 26)).heap.size := by simp
  have HB := Lib.hid (bare_4 ⟨14, vnum, vtx, vpa, vpl, vpc, vqa, vql, vqc, vopn, vka, vkl, vkc⟩ (w.alloc (.cells #[.int .i64 14, .int .i64 vnum, .string vtx, .slice vpa vpl vpc, .slice vqa vql vqc, .bool vopn, .slice vka vkl vkc] 26)))
  generalize hbb : bareV ⟨14, vnum, vtx, vpa, vpl, vpc, vqa, vql, vqc, vopn, vka, vkl, vkc⟩ false false false false true = b at HB
  have HB2 : Hid (bareV ⟨14, vnum, vtx, vpa, vpl, vpc, vqa, vql, vqc, vopn, vka, vkl, vkc⟩ false false false false true = b) := Lib.hid hbb
  dsimp only at HB
  clear hbb
  clear hps hqs hW
  have hsp : Hid (shapeV ⟨14, vnum, vtx, vpa, vpl, vpc, vqa, vql, vqc, vopn, vka, vkl, vkc⟩ p (q.map (·.1)) = (b && ((vkl : Int) == 2))) := Lib.hid (by simp [shapeV, HB2.out])
  cases b
  · have hR : Hid (shapeV ⟨14, vnum, vtx, vpa, vpl, vpc, vqa, vql, vqc, vopn, vka, vkl, vkc⟩ p (q.map (·.1)) = false) := Lib.hid (by rw [hsp.out]; rfl)
    go_enter Tryd.func33, Tryd.ntmps33
    go_wp2_with (first | (go_at_call 46; (with_reducible refine HB.out.mono ?_); rintro e w2 ⟨rfl, hb2⟩; have hs2 := hb2.size; have hA : ∀ o, w2.cell? ⟨w.heap.size, o, none⟩ = #[.int .i64 14, .int .i64 vnum, .string vtx, .slice vpa vpl vpc, .slice vqa vql vqc, .bool vopn, .slice vka vkl vkc][o]? := fun o => (hb2.cell (p := ⟨w.heap.size, o, none⟩) hl0).trans (cells_of NA.out o)))
    go_ret
    exact ⟨ret_bool hR.out.symm, hb1.trans (hb2.mono hs1)⟩
  · cases hz : ((vkl : Int) == 2)
    · have hR : Hid (shapeV ⟨14, vnum, vtx, vpa, vpl, vpc, vqa, vql, vqc, vopn, vka, vkl, vkc⟩ p (q.map (·.1)) = false) := Lib.hid (by rw [hsp.out, hz]; rfl)
      go_enter Tryd.func33, Tryd.ntmps33
      go_wp2_with (first | (go_at_call 46; (with_reducible refine HB.out.mono ?_); rintro e w2 ⟨rfl, hb2⟩; have hs2 := hb2.size; have hA : ∀ o, w2.cell? ⟨w.heap.size, o, none⟩ = #[.int .i64 14, .int .i64 vnum, .string vtx, .slice vpa vpl vpc, .slice vqa vql vqc, .bool vopn, .slice vka vkl vkc][o]? := fun o => (hb2.cell (p := ⟨w.heap.size, o, none⟩) hl0).trans (cells_of NA.out o)))
      go_ret
      exact ⟨ret_bool hR.out.symm, hb1.trans (hb2.mono hs1)⟩
    · have hR : Hid (shapeV ⟨14, vnum, vtx, vpa, vpl, vpc, vqa, vql, vqc, vopn, vka, vkl, vkc⟩ p (q.map (·.1)) = true) := Lib.hid (by rw [hsp.out, hz]; rfl)
      go_enter Tryd.func33, Tryd.ntmps33
      go_wp2_with (first | (go_at_call 46; (with_reducible refine HB.out.mono ?_); rintro e w2 ⟨rfl, hb2⟩; have hs2 := hb2.size; have hA : ∀ o, w2.cell? ⟨w.heap.size, o, none⟩ = #[.int .i64 14, .int .i64 vnum, .string vtx, .slice vpa vpl vpc, .slice vqa vql vqc, .bool vopn, .slice vka vkl vkc][o]? := fun o => (hb2.cell (p := ⟨w.heap.size, o, none⟩) hl0).trans (cells_of NA.out o)))
      go_ret
      exact ⟨ret_bool hR.out.symm, hb1.trans (hb2.mono hs1)⟩
set_option maxRecDepth 100000 in
set_option maxHeartbeats 8000000 in
theorem shaped_15 (n B : Nat) (vnum : Int) (vtx : ByteArray) (vpa : Option Addr) (vpl vpc : Nat) (vqa : Option Addr) (vql vqc : Nat) (vopn : Bool) (vka : Option Addr) (vkl vkc : Nat) (p : List ByteArray) (q : List (ByteArray × Ex n)) (w : World) (hB : B ≤ w.heap.size) (hW : Words w) (hps : StrsIn w B vpa vpl p) (hqs : PairsIn (ExIn w B n) w B vqa vql q) : Calls Tryd.prog 33 #[.agg #[.int .i64 15, .int .i64 vnum, .string vtx, .slice vpa vpl vpc, .slice vqa vql vqc, .bool vopn, .slice vka vkl vkc]] w fun e w' => e = .returned (.bool (shapeV ⟨15, vnum, vtx, vpa, vpl, vpc, vqa, vql, vqc, vopn, vka, vkl, vkc⟩ p (q.map (·.1)))) ∧ Below w.heap.size w w' := by
  have hp0 := hW.pos
  have hu := And.intro hB (And.intro hps hqs)
  clear hu
  have hb1 := bel1 w (.cells #[.int .i64 15, .int .i64 vnum, .string vtx, .slice vpa vpl vpc, .slice vqa vql vqc, .bool vopn, .slice vka vkl vkc] 26)
  have NA := Lib.hid (new_cells w #[.int .i64 15, .int .i64 vnum, .string vtx, .slice vpa vpl vpc, .slice vqa vql vqc, .bool vopn, .slice vka vkl vkc] 26)
  have hs1 := hb1.size
  have hl0 : w.heap.size < (w.alloc (.cells #[.int .i64 15, .int .i64 vnum, .string vtx, .slice vpa vpl vpc, .slice vqa vql vqc, .bool vopn, .slice vka vkl vkc] 26)).heap.size := by simp
  have HB := Lib.hid (bare_4 ⟨15, vnum, vtx, vpa, vpl, vpc, vqa, vql, vqc, vopn, vka, vkl, vkc⟩ (w.alloc (.cells #[.int .i64 15, .int .i64 vnum, .string vtx, .slice vpa vpl vpc, .slice vqa vql vqc, .bool vopn, .slice vka vkl vkc] 26)))
  generalize hbb : bareV ⟨15, vnum, vtx, vpa, vpl, vpc, vqa, vql, vqc, vopn, vka, vkl, vkc⟩ false false false false true = b at HB
  have HB2 : Hid (bareV ⟨15, vnum, vtx, vpa, vpl, vpc, vqa, vql, vqc, vopn, vka, vkl, vkc⟩ false false false false true = b) := Lib.hid hbb
  dsimp only at HB
  clear hbb
  clear hps hqs hW
  have hsp : Hid (shapeV ⟨15, vnum, vtx, vpa, vpl, vpc, vqa, vql, vqc, vopn, vka, vkl, vkc⟩ p (q.map (·.1)) = (b && ((vkl : Int) == 2))) := Lib.hid (by simp [shapeV, HB2.out])
  cases b
  · have hR : Hid (shapeV ⟨15, vnum, vtx, vpa, vpl, vpc, vqa, vql, vqc, vopn, vka, vkl, vkc⟩ p (q.map (·.1)) = false) := Lib.hid (by rw [hsp.out]; rfl)
    go_enter Tryd.func33, Tryd.ntmps33
    go_wp2_with (first | (go_at_call 46; (with_reducible refine HB.out.mono ?_); rintro e w2 ⟨rfl, hb2⟩; have hs2 := hb2.size; have hA : ∀ o, w2.cell? ⟨w.heap.size, o, none⟩ = #[.int .i64 15, .int .i64 vnum, .string vtx, .slice vpa vpl vpc, .slice vqa vql vqc, .bool vopn, .slice vka vkl vkc][o]? := fun o => (hb2.cell (p := ⟨w.heap.size, o, none⟩) hl0).trans (cells_of NA.out o)))
    go_ret
    exact ⟨ret_bool hR.out.symm, hb1.trans (hb2.mono hs1)⟩
  · cases hz : ((vkl : Int) == 2)
    · have hR : Hid (shapeV ⟨15, vnum, vtx, vpa, vpl, vpc, vqa, vql, vqc, vopn, vka, vkl, vkc⟩ p (q.map (·.1)) = false) := Lib.hid (by rw [hsp.out, hz]; rfl)
      go_enter Tryd.func33, Tryd.ntmps33
      go_wp2_with (first | (go_at_call 46; (with_reducible refine HB.out.mono ?_); rintro e w2 ⟨rfl, hb2⟩; have hs2 := hb2.size; have hA : ∀ o, w2.cell? ⟨w.heap.size, o, none⟩ = #[.int .i64 15, .int .i64 vnum, .string vtx, .slice vpa vpl vpc, .slice vqa vql vqc, .bool vopn, .slice vka vkl vkc][o]? := fun o => (hb2.cell (p := ⟨w.heap.size, o, none⟩) hl0).trans (cells_of NA.out o)))
      go_ret
      exact ⟨ret_bool hR.out.symm, hb1.trans (hb2.mono hs1)⟩
    · have hR : Hid (shapeV ⟨15, vnum, vtx, vpa, vpl, vpc, vqa, vql, vqc, vopn, vka, vkl, vkc⟩ p (q.map (·.1)) = true) := Lib.hid (by rw [hsp.out, hz]; rfl)
      go_enter Tryd.func33, Tryd.ntmps33
      go_wp2_with (first | (go_at_call 46; (with_reducible refine HB.out.mono ?_); rintro e w2 ⟨rfl, hb2⟩; have hs2 := hb2.size; have hA : ∀ o, w2.cell? ⟨w.heap.size, o, none⟩ = #[.int .i64 15, .int .i64 vnum, .string vtx, .slice vpa vpl vpc, .slice vqa vql vqc, .bool vopn, .slice vka vkl vkc][o]? := fun o => (hb2.cell (p := ⟨w.heap.size, o, none⟩) hl0).trans (cells_of NA.out o)))
      go_ret
      exact ⟨ret_bool hR.out.symm, hb1.trans (hb2.mono hs1)⟩
set_option maxRecDepth 100000 in
set_option maxHeartbeats 8000000 in
theorem shaped_no (n B : Nat) (vop vnum : Int) (vtx : ByteArray) (vpa : Option Addr) (vpl vpc : Nat) (vqa : Option Addr) (vql vqc : Nat) (vopn : Bool) (vka : Option Addr) (vkl vkc : Nat) (p : List ByteArray) (q : List (ByteArray × Ex n)) (w : World) (hB : B ≤ w.heap.size) (hW : Words w) (hps : StrsIn w B vpa vpl p) (hqs : PairsIn (ExIn w B n) w B vqa vql q) (h1 : ¬ vop = 1) (h2 : ¬ vop = 2) (h3 : ¬ vop = 3) (h4 : ¬ vop = 4) (h5 : ¬ vop = 5) (h6 : ¬ vop = 6) (h7 : ¬ vop = 7) (h8 : ¬ vop = 8) (h9 : ¬ vop = 9) (h10 : ¬ vop = 10) (h11 : ¬ vop = 11) (h12 : ¬ vop = 12) (h13 : ¬ vop = 13) (h14 : ¬ vop = 14) (h15 : ¬ vop = 15) : Calls Tryd.prog 33 #[.agg #[.int .i64 vop, .int .i64 vnum, .string vtx, .slice vpa vpl vpc, .slice vqa vql vqc, .bool vopn, .slice vka vkl vkc]] w fun e w' => e = .returned (.bool (shapeV ⟨vop, vnum, vtx, vpa, vpl, vpc, vqa, vql, vqc, vopn, vka, vkl, vkc⟩ p (q.map (·.1)))) ∧ Below w.heap.size w w' := by
  have hp0 := hW.pos
  have hu := And.intro hB (And.intro hps hqs)
  clear hu
  have hb1 := bel1 w (.cells #[.int .i64 vop, .int .i64 vnum, .string vtx, .slice vpa vpl vpc, .slice vqa vql vqc, .bool vopn, .slice vka vkl vkc] 26)
  have NA := Lib.hid (new_cells w #[.int .i64 vop, .int .i64 vnum, .string vtx, .slice vpa vpl vpc, .slice vqa vql vqc, .bool vopn, .slice vka vkl vkc] 26)
  have hs1 := hb1.size
  have hl0 : w.heap.size < (w.alloc (.cells #[.int .i64 vop, .int .i64 vnum, .string vtx, .slice vpa vpl vpc, .slice vqa vql vqc, .bool vopn, .slice vka vkl vkc] 26)).heap.size := by simp
  have hR : Hid (shapeV ⟨vop, vnum, vtx, vpa, vpl, vpc, vqa, vql, vqc, vopn, vka, vkl, vkc⟩ p (q.map (·.1)) = false) := Lib.hid (by simp [shapeV, *])
  have e1 : (vop == 1) = false := by simpa using h1
  have e2 : (vop == 2) = false := by simpa using h2
  have e3 : (vop == 3) = false := by simpa using h3
  have e4 : (vop == 4) = false := by simpa using h4
  have e5 : (vop == 5) = false := by simpa using h5
  have e6 : (vop == 6) = false := by simpa using h6
  have e7 : (vop == 7) = false := by simpa using h7
  have e8 : (vop == 8) = false := by simpa using h8
  have e9 : (vop == 9) = false := by simpa using h9
  have e10 : (vop == 10) = false := by simpa using h10
  have e11 : (vop == 11) = false := by simpa using h11
  have e12 : (vop == 12) = false := by simpa using h12
  have e13 : (vop == 13) = false := by simpa using h13
  have e14 : (vop == 14) = false := by simpa using h14
  have e15 : (vop == 15) = false := by simpa using h15
  clear h1 h2 h3 h4 h5 h6 h7 h8 h9 h10 h11 h12 h13 h14 h15 hps hqs hW
  go_enter Tryd.func33, Tryd.ntmps33
  go_wp2
  go_ret
  exact ⟨ret_bool hR.out.symm, hb1⟩
theorem shaped_any (n B : Nat) (v : V7) (x : Ex (n + 1)) (w : World) (hB : B ≤ w.heap.size) (hW : Words w) (hx : ExIn w B (n + 1) v x) : Calls Tryd.prog 33 #[.agg #[.int .i64 v.op, .int .i64 v.num, .string v.tx, .slice v.pa v.pl v.pc, .slice v.qa v.ql v.qc, .bool v.opn, .slice v.ka v.kl v.kc]] w fun e w' => e = .returned (.bool (shapeE x)) ∧ Below w.heap.size w w' := by
  rw [← shapeE_of hx]
  obtain ⟨vop, vnum, vtx, vpa, vpl, vpc, vqa, vql, vqc, vopn, vka, vkl, vkc⟩ := v
  obtain ⟨-, -, -, -, h5, h6, -⟩ := hx
  simp only at h5 h6 ⊢
  by_cases hn1 : vop = 1
  · subst hn1; exact shaped_1 n B _ _ _ _ _ _ _ _ _ _ _ _ _ _ w hB hW h5 h6
  by_cases hn2 : vop = 2
  · subst hn2; exact shaped_2 n B _ _ _ _ _ _ _ _ _ _ _ _ _ _ w hB hW h5 h6
  by_cases hn3 : vop = 3
  · subst hn3; exact shaped_3 n B _ _ _ _ _ _ _ _ _ _ _ _ _ _ w hB hW h5 h6
  by_cases hn4 : vop = 4
  · subst hn4; exact shaped_4 n B _ _ _ _ _ _ _ _ _ _ _ _ _ _ w hB hW h5 h6
  by_cases hn5 : vop = 5
  · subst hn5; exact shaped_5 n B _ _ _ _ _ _ _ _ _ _ _ _ _ _ w hB hW h5 h6
  by_cases hn6 : vop = 6
  · subst hn6; exact shaped_6 n B _ _ _ _ _ _ _ _ _ _ _ _ _ _ w hB hW h5 h6
  by_cases hn7 : vop = 7
  · subst hn7; exact shaped_7 n B _ _ _ _ _ _ _ _ _ _ _ _ _ _ w hB hW h5 h6
  by_cases hn8 : vop = 8
  · subst hn8; exact shaped_8 n B _ _ _ _ _ _ _ _ _ _ _ _ _ _ w hB hW h5 h6
  by_cases hn9 : vop = 9
  · subst hn9; exact shaped_9 n B _ _ _ _ _ _ _ _ _ _ _ _ _ _ w hB hW h5 h6
  by_cases hn10 : vop = 10
  · subst hn10; exact shaped_10 n B _ _ _ _ _ _ _ _ _ _ _ _ _ _ w hB hW h5 h6
  by_cases hn11 : vop = 11
  · subst hn11; exact shaped_11 n B _ _ _ _ _ _ _ _ _ _ _ _ _ _ w hB hW h5 h6
  by_cases hn12 : vop = 12
  · subst hn12; exact shaped_12 n B _ _ _ _ _ _ _ _ _ _ _ _ _ _ w hB hW h5 h6
  by_cases hn13 : vop = 13
  · subst hn13; exact shaped_13 n B _ _ _ _ _ _ _ _ _ _ _ _ _ _ w hB hW h5 h6
  by_cases hn14 : vop = 14
  · subst hn14; exact shaped_14 n B _ _ _ _ _ _ _ _ _ _ _ _ _ _ w hB hW h5 h6
  by_cases hn15 : vop = 15
  · subst hn15; exact shaped_15 n B _ _ _ _ _ _ _ _ _ _ _ _ _ _ w hB hW h5 h6
  exact shaped_no n B _ _ _ _ _ _ _ _ _ _ _ _ _ _ _ w hB hW h5 h6 hn1 hn2 hn3 hn4 hn5 hn6 hn7 hn8 hn9 hn10 hn11 hn12 hn13 hn14 hn15
end Go.Proofs.YtigdibglkejciaaDoor.Ex
