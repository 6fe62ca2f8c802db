/-
  The law's awake (treillagelaw07).
-/
import Derived.Test.YtigdibglkejciaaS9
namespace Go.Proofs.Ytigdibglkejciaa.Sca
open Go.RowKit

theorem aw1 : right 2 1 9 ⟨#[]⟩ false false false 0 = true := by decide +kernel
theorem aw2 : right 2 5 20 ⟨#[]⟩ false false false 0 = true := by decide +kernel
theorem aw3 : mok 2 1 9 ⟨#[]⟩ false false false 0 2 5 20 ⟨#[]⟩ false false false 0 = true := by decide +kernel
theorem aw4 : mlo 1 5 = 5 ∧ mhi 9 20 = 9 ∧ mtx false ⟨#[]⟩ ⟨#[]⟩ = ⟨#[]⟩ ∧ (false && false) = false ∧ mmb 2 5 9 false (false || false) = false := by decide +kernel
theorem aw5 : right 3 0 0 ⟨#[120]⟩ false false false 0 = true := by decide +kernel
theorem aw6 : right 3 0 0 ⟨#[]⟩ true false false 0 = true := by decide +kernel
theorem aw7 : one 3 0 0 true = false := by decide +kernel
theorem aw8 : mok 3 0 0 ⟨#[]⟩ true true false 0 3 0 0 ⟨#[120]⟩ false false false 0 = true := by decide +kernel
theorem aw9 : mlo 0 0 = 0 ∧ mhi 0 0 = 0 ∧ mtx true ⟨#[]⟩ ⟨#[120]⟩ = ⟨#[120]⟩ ∧ (true && false) = false ∧ mmb 3 0 0 false (true || false) = false := by decide +kernel

/-- Three blocks of the call's own read so, and nothing older has changed. -/
abbrev S3 (w : World) (a b c : Nat) (A B C : Array Value) (W : World) : Prop :=
  (∀ o, W.cell? ⟨a, o, none⟩ = A[o]?) ∧ (∀ o, W.cell? ⟨b, o, none⟩ = B[o]?) ∧ (∀ o, W.cell? ⟨c, o, none⟩ = C[o]?) ∧ (a < W.heap.size ∧ b < W.heap.size ∧ c < W.heap.size) ∧ Below w.heap.size w W ∧ w.heap.size ≤ W.heap.size
theorem S3.below {w : World} {a b c : Nat} {A B C : Array Value} {W W1 : World} (h : S3 w a b c A B C W) (hb : Below W.heap.size W W1) : S3 w a b c A B C W1 := by
  obtain ⟨h1, h2, h3, ⟨l1, l2, l3⟩, hB, hs⟩ := h
  have := hb.size
  exact ⟨fun o => (hb.cell (p := ⟨a, o, none⟩) l1).trans (h1 o), fun o => (hb.cell (p := ⟨b, o, none⟩) l2).trans (h2 o), fun o => (hb.cell (p := ⟨c, o, none⟩) l3).trans (h3 o), ⟨by omega, by omega, by omega⟩, hB.trans (hb.mono hs), by omega⟩
theorem S3.drew {w : World} {a b c : Nat} {A B C : Array Value} {W : World} (h : S3 w a b c A B C W) : S3 w a b c A B C W.drew := h.below (Below.refl _ _).drew
theorem S3.alloc {w : World} {a b c : Nat} {A B C : Array Value} {W : World} (h : S3 w a b c A B C W) (o : Obj) : S3 w a b c A B C (W.alloc o) := h.below ((Below.refl _ _).alloc (Nat.le_refl _) _)

theorem S3.setCell {w : World} {a b c : Nat} {A B C : Array Value} {W : World} (h : S3 w a b c A B C W) (p : Addr) (v : Value) (ha : a < p.block) (hb : b < p.block) (hc : c < p.block) (hw : w.heap.size ≤ p.block) : S3 w a b c A B C (W.setCell p v) := by
  obtain ⟨h1, h2, h3, ⟨l1, l2, l3⟩, hB, hs⟩ := h
  have hz : (W.setCell p v).heap.size = W.heap.size := by simp
  refine ⟨fun o => ?_, fun o => ?_, fun o => ?_, ⟨by omega, by omega, by omega⟩, hB.setCell hw v, by omega⟩
  · rw [World.cell?_setCell_other _ _ _ _ (by intro e; rw [e] at ha; simp at ha)]; exact h1 o
  · rw [World.cell?_setCell_other _ _ _ _ (by intro e; rw [e] at hb; simp at hb)]; exact h2 o
  · rw [World.cell?_setCell_other _ _ _ _ (by intro e; rw [e] at hc; simp at hc)]; exact h3 o

set_option maxHeartbeats 4000000 in
theorem awake_any (w : World) : Calls Try.prog 19 #[] w fun e w' => e = .returned (.bool true) ∧ Below w.heap.size w w' := by
  have h1 := Lib.hid aw1
  have h2 := Lib.hid aw2
  have h3 := Lib.hid aw3
  have h4 := Lib.hid aw4
  have h5 := Lib.hid aw5
  have h6 := Lib.hid aw6
  have h7 := Lib.hid aw7
  have h8 := Lib.hid aw8
  have h9 := Lib.hid aw9
  go_enter Try.func19, Try.ntmps19
  go_wp2_with (first | (go_at_call 27; (with_reducible refine (between_yes 1 9 h1 _).mono ?_); rintro e w1 ⟨rfl, hb_w1⟩; obtain ⟨hc_w1, hf_w1⟩ := bcell hb_w1; have hs_w1 := hb_w1.size; (try simp only [World.size_alloc] at hs_w1)) | (go_at_call 27; (with_reducible refine (between_yes 5 20 h2 _).mono ?_); rintro e w2 ⟨rfl, hb_w2⟩; obtain ⟨hc_w2, hf_w2⟩ := bcell hb_w2; have hs_w2 := hb_w2.size; (try simp only [World.size_alloc] at hs_w2); have hk_w2_0 : w1.heap.size < w2.heap.size := (by omega)) | (go_at_call 35; (with_reducible refine (meet_ok _ _ _ _ _ _ _ _ _ _ _ _ _ _ _ _ _ _ _ _ _ _ _ _ _ h3 h4 _).mono ?_); rintro e w3 ⟨rfl, hb_w3⟩; obtain ⟨hc_w3, hf_w3⟩ := bcell hb_w3; have hs_w3 := hb_w3.size; (try simp only [World.size_alloc] at hs_w3); have hk_w3_0 : w1.heap.size < w3.heap.size := (by omega); have hk_w3_1 : w2.heap.size < w3.heap.size := (by omega)) | (go_at_call 26; (with_reducible refine (whole_text _).mono ?_); rintro e w4 ⟨rfl, hb_w4⟩; obtain ⟨hc_w4, hf_w4⟩ := bcell hb_w4; have hs_w4 := hb_w4.size; (try simp only [World.size_alloc] at hs_w4); have hk_w4_0 : w3.heap.size < w4.heap.size := (by omega)) | (go_at_call 28; (with_reducible refine (text_yes _ h5 _).mono ?_); rintro e w5 ⟨rfl, hb_w5⟩; obtain ⟨hc_w5, hf_w5⟩ := bcell hb_w5; have hs_w5 := hb_w5.size; (try simp only [World.size_alloc] at hs_w5); have hk_w5_0 : w3.heap.size < w5.heap.size := (by omega); have hk_w5_1 : w4.heap.size < w5.heap.size := (by omega)))
  have hA : ∀ o, (w5.alloc (.cells #[.int .i64 3, .int .i64 0, .int .i64 0, .string ⟨#[120]⟩, .bool false, .bool false, .bool false, .slice none 0 0] 33)).cell? ⟨w3.heap.size, o, none⟩ = (#[.int .i64 2, .int .i64 5, .int .i64 9, .string ⟨#[]⟩, .bool false, .bool false, .bool false, .slice none 0 0] : Array Value)[o]? := by
    intro o
    rw [World.cell?_alloc_lt _ _ _ (by simp; omega), hc_w5 _ _ (by simp; omega), World.cell?_alloc_lt _ _ _ (by simp; omega), hc_w4 _ _ (by simp), World.cell?_alloc_new]
  have hB : ∀ o, (w5.alloc (.cells #[.int .i64 3, .int .i64 0, .int .i64 0, .string ⟨#[120]⟩, .bool false, .bool false, .bool false, .slice none 0 0] 33)).cell? ⟨w4.heap.size, o, none⟩ = (#[.int .i64 3, .int .i64 0, .int .i64 0, .string ⟨#[]⟩, .bool true, .bool false, .bool false, .slice none 0 0] : Array Value)[o]? := by
    intro o
    rw [World.cell?_alloc_lt _ _ _ (by simp; omega), hc_w5 _ _ (by simp), World.cell?_alloc_new]
  have hC : ∀ o, (w5.alloc (.cells #[.int .i64 3, .int .i64 0, .int .i64 0, .string ⟨#[120]⟩, .bool false, .bool false, .bool false, .slice none 0 0] 33)).cell? ⟨w5.heap.size, o, none⟩ = (#[.int .i64 3, .int .i64 0, .int .i64 0, .string ⟨#[120]⟩, .bool false, .bool false, .bool false, .slice none 0 0] : Array Value)[o]? := by
    intro o
    rw [World.cell?_alloc_new]
  have hs3 : w3.heap.size < w4.heap.size := by omega
  have hs4 : w4.heap.size < w5.heap.size := by omega
  have hs5 : w5.heap.size < (w5.alloc (.cells #[.int .i64 3, .int .i64 0, .int .i64 0, .string ⟨#[120]⟩, .bool false, .bool false, .bool false, .slice none 0 0] 33)).heap.size := by simp
  have hBel : Below w.heap.size w (w5.alloc (.cells #[.int .i64 3, .int .i64 0, .int .i64 0, .string ⟨#[120]⟩, .bool false, .bool false, .bool false, .slice none 0 0] 33)) := by (repeat (first | (with_reducible exact Below.refl _ _) | ((with_reducible refine Below.alloc ?_ ?_ _); rotate_left; (focus (first | omega | (simp; done) | (simp; omega)))) | ((with_reducible refine Below.setCell ?_ ?_ _); rotate_left; (focus (first | omega | (simp; done) | (simp; omega)))) | ((with_reducible refine Below.trans ?_ (Below.mono (by assumption) ?_)); rotate_left; (focus (first | omega | (simp; done) | (simp; omega)))) | (with_reducible assumption)))
  generalize w5.alloc (.cells #[.int .i64 3, .int .i64 0, .int .i64 0, .string ⟨#[120]⟩, .bool false, .bool false, .bool false, .slice none 0 0] 33) = W at hA hB hC hs5 hBel ⊢
  clear hc_w1 hf_w1 hs_w1 hc_w2 hf_w2 hs_w2 hc_w3 hf_w3 hs_w3 hc_w4 hf_w4 hs_w4 hc_w5 hf_w5 hs_w5 hk_w2_0 hk_w3_0 hk_w3_1 hk_w4_0 hk_w5_0 hk_w5_1 hb_w1 hb_w2 hb_w3 hb_w4 hb_w5 h1 h2 h3 h4 h5
  have hl1 : w3.heap.size < W.heap.size := by omega
  have hl2 : w4.heap.size < W.heap.size := by omega
  have hl4 := hBel.size
  have hS : S3 w w3.heap.size w4.heap.size w5.heap.size #[.int .i64 2, .int .i64 5, .int .i64 9, .string ⟨#[]⟩, .bool false, .bool false, .bool false, .slice none 0 0] #[.int .i64 3, .int .i64 0, .int .i64 0, .string ⟨#[]⟩, .bool true, .bool false, .bool false, .slice none 0 0] #[.int .i64 3, .int .i64 0, .int .i64 0, .string ⟨#[120]⟩, .bool false, .bool false, .bool false, .slice none 0 0] W := ⟨hA, hB, hC, ⟨by omega, by omega, hs5⟩, hBel, hBel.size⟩
  clear hA hB hC hBel hs3 hs4
  go_region_held3 (S3 w w3.heap.size w4.heap.size w5.heap.size #[.int .i64 2, .int .i64 5, .int .i64 9, .string ⟨#[]⟩, .bool false, .bool false, .bool false, .slice none 0 0] #[.int .i64 3, .int .i64 0, .int .i64 0, .string ⟨#[]⟩, .bool true, .bool false, .bool false, .slice none 0 0] #[.int .i64 3, .int .i64 0, .int .i64 0, .string ⟨#[120]⟩, .bool false, .bool false, .bool false, .slice none 0 0])
    (first | (with_reducible assumption) | (with_reducible exact S3.drew (by assumption)) | (with_reducible exact S3.below (by assumption) (by assumption)) | (with_reducible exact S3.alloc (by assumption) _) | (with_reducible exact S3.drew (S3.alloc (by assumption) _)) | (repeat (first | (with_reducible assumption) | (with_reducible refine S3.setCell ?_ _ _ ?_ ?_ ?_ ?_) | (simp; done) | (simp; omega))))
    (first | (go_at_call 30; (with_reducible refine (later_any _ _ _ _ _ _ _ _ _ _ true false h6 h7 _).mono ?_); rintro e w6 ⟨rfl, hb6⟩; obtain ⟨hc6, hf6⟩ := bcell hb6; have hs6 := hb6.size; (try simp at hs6); (try have hk6 : W.heap.size < w6.heap.size := (by omega)); have hS6 := S3.below (by assumption) hb6; obtain ⟨hl61, hl62, hl63⟩ := hS6.2.2.2.1; have hl64 := hS6.2.2.2.2.2; clear hS6) | (go_at_call 35; (with_reducible refine (meet_ok _ _ _ _ _ _ _ _ _ _ _ _ _ _ _ _ _ _ _ _ _ _ _ _ _ h8 h9 _).mono ?_); rintro e w7 ⟨rfl, hb7⟩; obtain ⟨hc7, hf7⟩ := bcell hb7; have hs7 := hb7.size; (try simp only [World.size_alloc] at hs7); (try have hk7 : W.heap.size < w7.heap.size := (by omega)); (try have hk76 : w6.heap.size < w7.heap.size := (by omega)); have hS7 := S3.below (by assumption) hb7))
  all_goals go_wp2
  all_goals go_ret
  all_goals exact ⟨rfl, (by assumption : S3 w _ _ _ _ _ _ _).2.2.2.2.1⟩
end Go.Proofs.Ytigdibglkejciaa.Sca
