/-
  What is made, in one form for all cases (r: is it right?); and like over such.
-/
import Derived.Test.YtigdibglkejciaaS10
namespace Go.Proofs.Ytigdibglkejciaa.Sca
open Go.RowKit

/-- x, or zero. -/
def selI (r : Bool) (x : Int) : Int := if r then x else 0
def selS (r : Bool) (x : ByteArray) : ByteArray := if r then x else ⟨#[]⟩

theorem between_sel (l h : Int) (r : Bool) (hr : Hid (right 2 l h ⟨#[]⟩ false false false 0 = r)) (w : World) :
    Calls Try.prog 27 #[.int .i64 l, .int .i64 h] w fun e w' => e = .returned (.tuple #[.agg #[.int .i64 (selI r 2), .int .i64 (selI r l), .int .i64 (selI r h), .string ⟨#[]⟩, .bool false, .bool false, .bool false, .slice none 0 0], .bool r]) ∧ Below w.heap.size w w' := by
  cases r
  · exact between_no l h hr w
  · exact between_yes l h hr w
theorem text_sel (s : ByteArray) (r : Bool) (hr : Hid (right 3 0 0 s false false false 0 = r)) (w : World) :
    Calls Try.prog 28 #[.string s] w fun e w' => e = .returned (.tuple #[.agg #[.int .i64 (selI r 3), .int .i64 0, .int .i64 0, .string (selS r s), .bool false, .bool false, .bool false, .slice none 0 0], .bool r]) ∧ Below w.heap.size w w' := by
  cases r
  · exact text_no s hr w
  · exact text_yes s hr w
/-- All of a kind: its bounds. -/
def wok (k : Int) : Bool := decide (1 ≤ k) && decide (k ≤ 3)
def wlo (k : Int) : Int := if k == 2 then -9007199254740992 else 0
def whi (k : Int) : Int := if k == 1 then 1 else if k == 2 then 9007199254740992 else 0
def wany (k : Int) : Bool := k == 3
theorem whole_sel (k : Int) (r : Bool) (l h : Int) (a : Bool) (hr : Hid (wok k = r ∧ wlo k = l ∧ whi k = h ∧ wany k = a)) (w : World) :
    Calls Try.prog 26 #[.int .i64 k] w fun e w' => e = .returned (.tuple #[.agg #[.int .i64 (selI r k), .int .i64 (selI r l), .int .i64 (selI r h), .string ⟨#[]⟩, .bool (r && a), .bool false, .bool false, .slice none 0 0], .bool r]) ∧ Below w.heap.size w w' := by
  obtain ⟨rfl, rfl, rfl, rfl⟩ := hr.out
  by_cases h1 : k = 1
  · subst h1; exact whole_bool w
  by_cases h2 : k = 2
  · subst h2; exact whole_int w
  by_cases h3 : k = 3
  · subst h3; exact whole_text w
  have hw : wok k = false := by unfold wok; simp; omega
  rw [hw]
  exact whole_no k (by simpa using h1) (by simpa using h2) (by simpa using h3) w
theorem wok_right (k : Int) (h : wok k = true) : right k (wlo k) (whi k) ⟨#[]⟩ (wany k) false false 0 = true := by
  unfold wok at h
  have : k = 1 ∨ k = 2 ∨ k = 3 := by simp at h; omega
  rcases this with rfl | rfl | rfl <;> decide +kernel

theorem sameR_self (k l h : Int) (s : ByteArray) (a m : Bool) : sameR k l h s a m k l h s a m true true = true := by simp [sameR]
/-- like of a thing and itself, if it is right; of zero and anything, if not. -/
theorem like_sel (k l h : Int) (s : ByteArray) (a : Bool) (r : Bool) (hr : Hid (r = true → right k l h s a false false 0 = true)) (w : World) :
    Calls Try.prog 29 #[.agg #[.int .i64 (selI r k), .int .i64 (selI r l), .int .i64 (selI r h), .string (selS r s), .bool (r && a), .bool false, .bool false, .slice none 0 0], .bool r, .agg #[.int .i64 k, .int .i64 l, .int .i64 h, .string s, .bool a, .bool false, .bool false, .slice none 0 0], .bool r] w fun e w' => e = .returned (.bool true) ∧ Below w.heap.size w w' := by
  cases r
  · exact like_no _ _ _ _ _ _ _ _ _ _ w
  · exact like_yes _ _ _ _ _ _ _ _ _ _ _ _ _ _ _ _ _ _ _ _ true true true (hr.out rfl) (hr.out rfl) (sameR_self _ _ _ _ _ _) w
theorem like_whole (k l h : Int) (a : Bool) (r : Bool) (hr : Hid (r = true → right k l h ⟨#[]⟩ a false false 0 = true)) (w : World) :
    Calls Try.prog 29 #[.agg #[.int .i64 (selI r k), .int .i64 (selI r l), .int .i64 (selI r h), .string ⟨#[]⟩, .bool (r && a), .bool false, .bool false, .slice none 0 0], .bool r, .agg #[.int .i64 k, .int .i64 l, .int .i64 h, .string ⟨#[]⟩, .bool a, .bool false, .bool false, .slice none 0 0], .bool r] w fun e w' => e = .returned (.bool true) ∧ Below w.heap.size w w' := by
  have h0 := like_sel k l h ⟨#[]⟩ a r hr w
  have e : selS r ⟨#[]⟩ = ⟨#[]⟩ := by unfold selS; cases r <;> rfl
  rw [e] at h0
  exact h0
theorem like_span (l h : Int) (r : Bool) (hr : Hid (right 2 l h ⟨#[]⟩ false false false 0 = r)) (w : World) :
    Calls Try.prog 29 #[.agg #[.int .i64 (selI r 2), .int .i64 (selI r l), .int .i64 (selI r h), .string ⟨#[]⟩, .bool false, .bool false, .bool false, .slice none 0 0], .bool r, .agg #[.int .i64 2, .int .i64 l, .int .i64 h, .string ⟨#[]⟩, .bool false, .bool false, .bool false, .slice none 0 0], .bool r] w fun e w' => e = .returned (.bool true) ∧ Below w.heap.size w w' := by
  have h0 := like_whole 2 l h false r (fun e => hr.out.trans e) w
  rw [Bool.and_false] at h0
  exact h0
theorem like_text (s : ByteArray) (r : Bool) (hr : Hid (right 3 0 0 s false false false 0 = r)) (w : World) :
    Calls Try.prog 29 #[.agg #[.int .i64 (selI r 3), .int .i64 0, .int .i64 0, .string (selS r s), .bool false, .bool false, .bool false, .slice none 0 0], .bool r, .agg #[.int .i64 3, .int .i64 0, .int .i64 0, .string s, .bool false, .bool false, .bool false, .slice none 0 0], .bool r] w fun e w' => e = .returned (.bool true) ∧ Below w.heap.size w w' := by
  have h0 := like_sel 3 0 0 s false r (fun e => hr.out.trans e) w
  have e : selI r 0 = 0 := by unfold selI; cases r <;> rfl
  rw [Bool.and_false, e] at h0
  exact h0
theorem right_later {k l h : Int} {s : ByteArray} {a m o : Bool} {n : Nat} (hr : right k l h s a m o n = true) (ho : one k l h a = false) : right k l h s a true o n = true := by
  unfold right at *
  rw [ho] at *
  simp at hr ⊢
  exact ⟨hr.1.1, hr.2⟩
end Go.Proofs.Ytigdibglkejciaa.Sca
