/-
  Two lists of texts: are they the same? In the reference and in Go's library.
-/
import Derived.Test.YtigdibglkejciaaDoorE21
namespace Go.Proofs.YtigdibglkejciaaDoor.Ex
open Go.RowKit Go
set_option linter.unusedSimpArgs false

/-- Two lists, item by item. -/
def eqL {α β : Type} (f : α → β → Bool) : List α → List β → Bool
  | [], [] => true
  | x :: l, y :: m => f x y && eqL f l m
  | _, _ => false
theorem eqL_len {α β : Type} (f : α → β → Bool) : ∀ (l : List α) (m : List β), l.length ≠ m.length → eqL f l m = false
  | [], [], h => absurd rfl h
  | [], _ :: _, _ => rfl
  | _ :: _, [], _ => rfl
  | x :: l, y :: m, h => by simp only [eqL]; rw [eqL_len f l m (by simpa using h), Bool.and_false]
theorem eqL_no {α β : Type} (f : α → β → Bool) : ∀ (l : List α) (m : List β) (i : Nat) (h : i < l.length) (h' : i < m.length), f l[i] m[i] = false → eqL f l m = false
  | x :: l, y :: m, 0, _, _, e => by simp only [eqL]; simp at e; rw [e, Bool.false_and]
  | x :: l, y :: m, i + 1, h, h', e => by simp only [eqL]; rw [eqL_no f l m i (by simpa using h) (by simpa using h') (by simpa using e), Bool.and_false]
theorem eqL_yes {α β : Type} (f : α → β → Bool) : ∀ (l : List α) (m : List β), l.length = m.length → (∀ i (h : i < l.length) (h' : i < m.length), f l[i] m[i] = true) → eqL f l m = true
  | [], [], _, _ => rfl
  | [], _ :: _, h, _ => by simp at h
  | _ :: _, [], h, _ => by simp at h
  | x :: l, y :: m, h, e => by
    have h0 := e 0 (by simp) (by simp)
    simp at h0
    simp only [eqL]
    rw [h0, Bool.true_and]
    exact eqL_yes f l m (by simpa using h) (fun i hi hi' => e (i + 1) (by simpa using hi) (by simpa using hi'))
def strEq (a b : ByteArray) : Bool := a.toList == b.toList
set_option maxHeartbeats 2000000 in
theorem strsR_same (B : Nat) (a a' : Option Addr) (c c' : Nat) (l l' : List ByteArray) (w : World) (hB : B ≤ w.heap.size) (hl : StrsIn w B a l.length l) (hl' : StrsIn w B a' l'.length l') : Calls Tryd.prog 11 #[.slice a l.length c, .slice a' l'.length c'] w fun e w' => e = .returned (.bool (eqL strEq l l')) ∧ Below w.heap.size w w' := by
  have hml := hl.2.1
  have HL := Lib.hid hl
  have HL' := Lib.hid hl'
  clear hl hl'
  unfold maxLen at hml
  by_cases hlen : l.length = l'.length
  · have e1 : ((l.length : Int) != (l'.length : Int)) = false := by simp [hlen]
    have HLN := Lib.hid hlen
    have hm2 := Nat.le_of_eq hlen
    have hm3 := Nat.le_of_eq hlen.symm
    clear hlen
    go_enter Tryd.func11, Tryd.ntmps11
    go_wp2
    go_loopw [5] (fun i wr => Below w.heap.size w wr ∧ ∃ k : Nat, k ≤ l.length ∧ i = .int .i64 k ∧ Hid (∀ i, i < k → (h : i < l.length) → (h' : i < l'.length) → strEq l[i] l'[i] = true)) (fun i _ => l.length - (intOf i).toNat)
    case atStart => exact ⟨Below.refl _ _, 0, Nat.zero_le _, rfl, fun i h => by omega⟩
    case round =>
      obtain ⟨hbel, k, hk, rfl, hok⟩ := hrel
      by_cases hlt : k < l.length
      · have hlt' : k < l'.length := by omega
        obtain ⟨g, off, rfl, hg, hc⟩ := HL.out.2.2 (by omega)
        obtain ⟨g', off', rfl, hg', hc'⟩ := HL'.out.2.2 (by omega)
        have c0 : wr.cell? ⟨g, off + k, none⟩ = _ := (hbel.cell (p := ⟨g, _, none⟩) (by show g < w.heap.size; omega)).trans (hc k hlt)
        have c1 : wr.cell? ⟨g', off' + k, none⟩ = _ := (hbel.cell (p := ⟨g', _, none⟩) (by show g' < w.heap.size; omega)).trans (hc' k hlt')
        have i1 : (0 : Int) ≤ (k : Int) := by omega
        have i2 : (k : Int) < (l.length : Int) := by omega
        have i3 : (k : Int) < (l'.length : Int) := by omega
        have hyes : Hid (strEq l[k] l'[k] = true → ∀ i, i < k + 1 → (h : i < l.length) → (h' : i < l'.length) → strEq l[i] l'[i] = true) := Lib.hid (fun hr i hi h h2 => (Nat.lt_succ_iff_lt_or_eq.1 hi).elim (fun h' => hok.out i h' h h2) (fun e => by subst e; exact hr))
        have hno : Hid (strEq l[k] l'[k] = false → eqL strEq l l' = false) := Lib.hid (fun hr => eqL_no _ _ _ k hlt hlt' hr)
        generalize l[k] = s at c0 hyes hno
        generalize l'[k] = s' at c1 hyes hno
        obtain ⟨b, hb⟩ : ∃ b, strEq s s' = b := ⟨_, rfl⟩
        rw [hb] at hyes hno
        have hb2 : (s.toList == s'.toList) = b := hb
        clear hc hc' hb hok
        cases b
        · have hR := Lib.hid (hno.out rfl)
          clear hyes hno
          go_wp2
          go_region
          go_wp2
          go_ret
          exact ⟨ret_bool hR.out.symm, hbel.drew⟩
        · have hok2 := Lib.hid (hyes.out rfl)
          clear hyes hno
          go_wp2
          go_region
          go_wp2
          go_roundw
          case rel => exact ⟨hbel.drew, k + 1, by omega, by go_num, hok2⟩
          case measure => simp [intOf]; omega
      · have hge : (l.length : Int) ≤ (k : Int) := by omega
        have hR : Hid (eqL strEq l l' = true) := Lib.hid (eqL_yes _ _ _ HLN.out (fun i h h' => hok.out i (by omega) h h'))
        go_wp2
        go_ret
        exact ⟨ret_bool hR.out.symm, hbel⟩
  · have e1 : ((l.length : Int) != (l'.length : Int)) = true := by simpa using (fun h => hlen (by omega) : (l.length : Int) ≠ l'.length)
    have hR : Hid (eqL strEq l l' = false) := Lib.hid (eqL_len _ _ _ hlen)
    clear hlen
    go_enter Tryd.func11, Tryd.ntmps11
    go_wp2
    go_ret
    exact ⟨ret_bool hR.out.symm, Below.refl _ _⟩
set_option maxHeartbeats 2000000 in
theorem strs_same (B : Nat) (a a' : Option Addr) (c c' : Nat) (l l' : List ByteArray) (w : World) (hB : B ≤ w.heap.size) (hl : StrsIn w B a l.length l) (hl' : StrsIn w B a' l'.length l') : Calls Tryd.prog 42 #[.slice a l.length c, .slice a' l'.length c'] w fun e w' => e = .returned (.bool (eqL strEq l l')) ∧ Below w.heap.size w w' := by
  have hml := hl.2.1
  have HL := Lib.hid hl
  have HL' := Lib.hid hl'
  clear hl hl'
  unfold maxLen at hml
  by_cases hlen : l.length = l'.length
  · have e1 : ((l.length : Int) != (l'.length : Int)) = false := by simp [hlen]
    have HLN := Lib.hid hlen
    have hm2 := Nat.le_of_eq hlen
    have hm3 := Nat.le_of_eq hlen.symm
    clear hlen
    go_enter Tryd.func42, Tryd.ntmps42
    go_wp2
    go_loopw [13] (fun i wr => Below w.heap.size w wr ∧ ∃ k : Nat, k ≤ l.length ∧ i = .int .i64 k ∧ Hid (∀ i, i < k → (h : i < l.length) → (h' : i < l'.length) → strEq l[i] l'[i] = true)) (fun i _ => l.length - (intOf i).toNat)
    case atStart => exact ⟨Below.refl _ _, 0, Nat.zero_le _, rfl, fun i h => by omega⟩
    case round =>
      obtain ⟨hbel, k, hk, rfl, hok⟩ := hrel
      by_cases hlt : k < l.length
      · have hlt' : k < l'.length := by omega
        obtain ⟨g, off, rfl, hg, hc⟩ := HL.out.2.2 (by omega)
        obtain ⟨g', off', rfl, hg', hc'⟩ := HL'.out.2.2 (by omega)
        have c0 : wr.cell? ⟨g, off + k, none⟩ = _ := (hbel.cell (p := ⟨g, _, none⟩) (by show g < w.heap.size; omega)).trans (hc k hlt)
        have c1 : wr.cell? ⟨g', off' + k, none⟩ = _ := (hbel.cell (p := ⟨g', _, none⟩) (by show g' < w.heap.size; omega)).trans (hc' k hlt')
        have i1 : (0 : Int) ≤ (k : Int) := by omega
        have i2 : (k : Int) < (l.length : Int) := by omega
        have i3 : (k : Int) < (l'.length : Int) := by omega
        have hyes : Hid (strEq l[k] l'[k] = true → ∀ i, i < k + 1 → (h : i < l.length) → (h' : i < l'.length) → strEq l[i] l'[i] = true) := Lib.hid (fun hr i hi h h2 => (Nat.lt_succ_iff_lt_or_eq.1 hi).elim (fun h' => hok.out i h' h h2) (fun e => by subst e; exact hr))
        have hno : Hid (strEq l[k] l'[k] = false → eqL strEq l l' = false) := Lib.hid (fun hr => eqL_no _ _ _ k hlt hlt' hr)
        generalize l[k] = s at c0 hyes hno
        generalize l'[k] = s' at c1 hyes hno
        obtain ⟨b, hb⟩ : ∃ b, strEq s s' = b := ⟨_, rfl⟩
        rw [hb] at hyes hno
        have hb2 : (s.toList == s'.toList) = b := hb
        clear hc hc' hb hok
        cases b
        · have hR := Lib.hid (hno.out rfl)
          clear hyes hno
          go_wp2
          go_region
          go_wp2
          go_ret
          exact ⟨ret_bool hR.out.symm, hbel.drew⟩
        · have hok2 := Lib.hid (hyes.out rfl)
          clear hyes hno
          go_wp2
          go_region
          go_wp2
          go_roundw
          case rel => exact ⟨hbel.drew, k + 1, by omega, by go_num, hok2⟩
          case measure => simp [intOf]; omega
      · have hge : (l.length : Int) ≤ (k : Int) := by omega
        have hR : Hid (eqL strEq l l' = true) := Lib.hid (eqL_yes _ _ _ HLN.out (fun i h h' => hok.out i (by omega) h h'))
        go_wp2
        go_ret
        exact ⟨ret_bool hR.out.symm, hbel⟩
  · have e1 : ((l.length : Int) != (l'.length : Int)) = true := by simpa using (fun h => hlen (by omega) : (l.length : Int) ≠ l'.length)
    have hR : Hid (eqL strEq l l' = false) := Lib.hid (eqL_len _ _ _ hlen)
    clear hlen
    go_enter Tryd.func42, Tryd.ntmps42
    go_wp2
    go_ret
    exact ⟨ret_bool hR.out.symm, Below.refl _ _⟩
end Go.Proofs.YtigdibglkejciaaDoor.Ex
