/-
  DeleteFunc on a row of numbers, with Drop's test; Each's maker.
-/
import Derived.Test.YtigdibglkejciaaB7
import Derived.Shelf.SlicesE.DeleteFunc
import Derived.Lib.SliceRun
import Derived.Lib.OwnBridge
namespace Go.Proofs
open Go.Shelf Go.RowKit Go.Lib Go.Sort
def Try.l79_ren : Go.Shelf.Ren := ⟨fun | 10 => 79 | 6 => 86 | n => n, fun | 22 => 68 | 23 => 3 | 25 => 74 | 3 => 3 | 4 => 4 | 0 => 0 | n => n, fun | n => n⟩
theorem Try.l79 : Go.Proofs.SlLaysH.n10 Try.prog Try.l79_ren := {
  mixed := by kernel_rfl
  f6 := ⟨Try.f86.name, by decide, Try.func86.trans (congrArg some (by kernel_rfl))⟩
  f10 := ⟨Try.f79.name, by decide, Try.func79.trans (congrArg some (by kernel_rfl))⟩
  t0 := Try.underlying0
  a0 := Try.isAgg0
  z0 := Try.sizeOf0
  v0 := Try.zeroValue0
  t3 := Try.underlying3
  a3 := Try.isAgg3
  z3 := Try.sizeOf3
  v3 := Try.zeroValue3
  t4 := Try.underlying4
  a4 := Try.isAgg4
  z4 := Try.sizeOf4
  v4 := Try.zeroValue4
  t22 := Try.underlying68
  a22 := Try.isAgg68
  z22 := Try.sizeOf68
  v22 := Try.zeroValue68
  a23 := Try.isAgg3
  z23 := Try.sizeOf3
  t25 := Try.underlying74
  a25 := Try.isAgg74
  z25 := Try.sizeOf74
  v25 := Try.zeroValue74 }
end Go.Proofs
namespace Go.Proofs.Ytigdibglkejciaa.Buck
open Go.RowKit Go Go.Sort Go.Shelf
set_option linter.unusedSimpArgs false

theorem gives80 (k x : Int) (B : Nat) (W : World) (hc : W.cell? ⟨B, 0, none⟩ = some (.int .i64 k)) : FnGives Try.prog 80 #[.pointer (some ⟨B, 0, none⟩)] #[.int .i64 x] (.bool (x == k)) W := by
  show Calls Try.prog 80 #[.int .i64 x, .pointer (some ⟨B, 0, none⟩)] W _
  go_enter Try.func80, Try.ntmps80
  go_wp2
  go_ret
  exact ⟨rfl, 0, rfl⟩
theorem pred80 (k : Int) (B : Nat) (w : World) (hB : B < w.heap.size) (hcell : w.cell? ⟨B, 0, none⟩ = some (.int .i64 k)) : PredAt Try.prog 80 #[.pointer (some ⟨B, 0, none⟩)] (Value.int .i64) (fun x => x == k) w :=
  fun W x hb => gives80 k x B W ((hb.cell (p := ⟨B, 0, none⟩) hB).trans hcell)
theorem over80 (k : Int) (B blk off size : Nat) (w : World) (hB : B < w.heap.size) (hne : B ≠ blk) (hcell : w.cell? ⟨B, 0, none⟩ = some (.int .i64 k)) :
    PredOver Try.prog 80 #[.pointer (some ⟨B, 0, none⟩)] (Value.int .i64) (fun x => x == k) blk off size w :=
  fun n os dk x _ => gives80 k x B _ (by
    unfold sortWorld
    rw [cell?_grow _ _ _ (by show B < (putRow _ _ _ _ _).heap.size; rw [size_putRow]; exact hB), cell?_putRow_other _ _ blk off _ _ (Or.inl hne)]
    exact hcell)
/-- All but one number. -/
def keepZ (zs : List Int) (k : Int) : List Int := zs.filter (fun x => x != k)
def DelPost (base g cap : Nat) (zs : List Int) (w : World) (e : Ending) (w' : World) : Prop := e = .returned (.slice (some ⟨g, 0, none⟩) zs.length cap) ∧ w'.ownsRow base 3 1 (.slice (some ⟨g, 0, none⟩) zs.length cap) zs.length (ints zs) ∧ w.grownBy w' (some g)
theorem grown_putRow {α : Type} [Inhabited α] {enc : α → Value} {w : World} {g q : Nat} {d : Array α} : w.grownBy (putRow enc (Sort.ahead w q) g 0 d) (some g) :=
  ⟨rfl, rfl, rfl, by simp [putRow, mapBlock, Sort.ahead], fun k _ hk => by
    simp [putRow, mapBlock, Sort.ahead, Array.getElem?_modify, show g ≠ k from fun e => hk (by rw [e])]⟩
theorem del_row (base g cap c : Nat) (zs : List Int) (k : Int) (w : World) (h : w.ownsRow base 3 1 (.slice (some ⟨g, 0, none⟩) zs.length cap) zs.length (ints zs)) (hl : zs.length ≤ 1000) (hc : c < w.heap.size) (hne : c ≠ g) (hcell : w.cell? ⟨c, 0, none⟩ = some (.int .i64 k)) :
    Calls Try.prog 79 #[.slice (some ⟨g, 0, none⟩) zs.length cap, .func (.func 80) #[] #[.pointer (some ⟨c, 0, none⟩)]] w (DelPost base g cap (keepZ zs k) w) := by
  have eg : ∀ args w, (callFunc 80 args).run Try.prog w = .ok (.enter 80 args) w := enters_of Try.func80 (by kernel_rfl) rfl
  obtain ⟨g', cap', e, hb, hg, hn, hm, _, hH⟩ := Lib.holds_of_ownsRow (enc := Value.int .i64) h (by simp)
  injection e with e1 _ e3
  injection e1 with e1
  injection e1 with e1
  subst e1; subst e3
  have hkl : (keepZ zs k).length ≤ zs.length := List.length_filter_le _ _
  have hcon := AnyE.slices_DeleteFunc Try.l79 (Value.int .i64) (fun _ => rfl) (fun x => x == k) 80 #[.pointer (some ⟨c, 0, none⟩)] eg 0 Try.zeroValue3 g 0 cap zs.toArray w
    (pred80 k c w hc hcell) (over80 k c g 0 zs.toArray.size w hc hne hcell) hH (by simp; omega) (by simpa using hn)
  simp only [List.size_toArray] at hcon
  refine Calls.mono (show Calls Try.prog 79 _ _ _ from hcon) ?_
  rintro e w' ⟨rfl, q, rfl⟩
  have ek : (zs.filter fun x => !(x == k)) = keepZ zs k := rfl
  rw [ek]
  refine ⟨rfl, ?_, grown_putRow⟩
  have := Lib.ownsRow_putRow (enc := Value.int .i64) (q := q) (k := (keepZ zs k).length) (ys := keepZ zs k ++ List.replicate (zs.length - (keepZ zs k).length) 0) h (by simp; omega) hkl
  rw [List.take_left] at this
  exact this

/-- Each's maker. -/
def MakerPost (p : Value) (w : World) (e : Ending) (w' : World) : Prop := e = .returned (.func (.func 85) #[] #[.pointer (some ⟨w.heap.size, 0, none⟩)]) ∧ w' = w.alloc (.cells #[p] 23)
theorem each_maker (p : Option Addr) (w : World) : Calls Try.prog 78 #[.pointer p] w (MakerPost (.pointer p) w) := by
  go_enter Try.func78, Try.ntmps78
  go_wp2
  go_ret
  exact ⟨rfl, rfl⟩
end Go.Proofs.Ytigdibglkejciaa.Buck
