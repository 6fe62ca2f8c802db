/-
  left and Few: an expression is small.
-/
import Derived.Test.YtigdibglkejciaaDoorE6
namespace Go.Proofs.YtigdibglkejciaaDoor.Ex
open Go.RowKit Go
set_option linter.unusedSimpArgs false

theorem cells_of {w : World} {b : Nat} {c : Array Value} {T : TypeId} {f : Nat × Nat} (h : w.heap[b]? = some (.cells c T f)) (o : Nat) : w.cell? ⟨b, o, none⟩ = c[o]? := by
  simp [World.cell?, h]
theorem new_cells (w : World) (c : Array Value) (T : TypeId) : (w.alloc (.cells c T)).heap[w.heap.size]? = some (.cells c T (0, 0)) := by
  show (w.heap.push _)[w.heap.size]? = _
  exact Array.getElem?_push_size
theorem bel1 (w : World) (o : Obj) : Below w.heap.size w (w.alloc o) := (Below.refl _ _).alloc (Nat.le_refl _) _
def LeftPost (n : Nat) (x : Ex n) (D : Nat) (m : Int) (w : World) (e : Ending) (w' : World) : Prop := ∃ r : Int, e = .returned (.int .i64 r) ∧ r ≤ 200 ∧ (0 ≤ r → SmallE n D x ∧ r + (cnt n x : Int) = m) ∧ Below w.heap.size w w'
def LeftOk (n : Nat) : Prop := ∀ (w : World) (B : Nat) (v : V7) (x : Ex n) (D : Nat) (m : Int), B ≤ w.heap.size → D ≤ 1000 → m ≤ 200 → ExIn w B n v x → Calls Tryd.prog 25 #[.agg #[.int .i64 v.op, .int .i64 v.num, .string v.tx, .slice v.pa v.pl v.pc, .slice v.qa v.ql v.qc, .bool v.opn, .slice v.ka v.kl v.kc], .int .i64 (D : Int), .int .i64 m] w (LeftPost n x D m w)
theorem left_zero : LeftOk 0 := fun _ _ _ x => x.elim
set_option maxRecDepth 100000 in
set_option maxHeartbeats 8000000 in
theorem left_succ (n : Nat) (HL : Hid (LeftOk n)) : LeftOk (n + 1) := by
  intro w B v x D m hB hD hm hx
  obtain ⟨vop, vnum, vtx, vpa, vpl, vpc, vqa, vql, vqc, vopn, vka, vkl, vkc⟩ := v
  obtain ⟨-, -, htx, -, hps, hqs, hks⟩ := hx
  simp only at htx hps hqs hks ⊢
  have LP := Lib.hid hps.1
  have LQ := Lib.hid hqs.1
  have LK := Lib.hid hks.1
  have HP := Lib.hid hps
  have HQ := Lib.hid hqs
  have HK := Lib.hid hks
  have HTX := Lib.hid htx
  clear hps hqs hks htx
  by_cases h1 : D = 0
  · have e1 : ((D : Int) == 0) = true := by simp [h1]
    clear h1
    go_enter Tryd.func25, Tryd.ntmps25
    go_wp2
    go_ret
    exact ⟨-1, rfl, by omega, fun h => absurd h (by omega), by first | exact Below.refl _ _ | exact bel1 w _⟩
  have e1 : ((D : Int) == 0) = false := by simpa using h1
  by_cases h2 : m ≤ 0
  · have e2 := h2
    clear h1 h2
    go_enter Tryd.func25, Tryd.ntmps25
    go_wp2
    go_ret
    exact ⟨-1, rfl, by omega, fun h => absurd h (by omega), by first | exact Below.refl _ _ | exact bel1 w _⟩
  have e2 : 0 < m := by omega
  by_cases h3 : 400 < vtx.size
  · have e3 : (400 : Int) < (vtx.size : Int) := by omega
    clear h1 h2 h3
    go_enter Tryd.func25, Tryd.ntmps25
    go_wp2
    go_ret
    exact ⟨-1, rfl, by omega, fun h => absurd h (by omega), by first | exact Below.refl _ _ | exact bel1 w _⟩
  have e3 : (vtx.size : Int) ≤ 400 := by omega
  by_cases h4 : 40 < vpl
  · have e4 : (40 : Int) < (vpl : Int) := by omega
    clear h1 h2 h3 h4
    go_enter Tryd.func25, Tryd.ntmps25
    go_wp2
    go_ret
    exact ⟨-1, rfl, by omega, fun h => absurd h (by omega), by first | exact Below.refl _ _ | exact bel1 w _⟩
  have e4 : (vpl : Int) ≤ 40 := by omega
  by_cases h5 : 200 < vql
  · have e5 : (200 : Int) < (vql : Int) := by omega
    clear h1 h2 h3 h4 h5
    go_enter Tryd.func25, Tryd.ntmps25
    go_wp2
    go_ret
    exact ⟨-1, rfl, by omega, fun h => absurd h (by omega), by first | exact Below.refl _ _ | exact bel1 w _⟩
  have e5 : (vql : Int) ≤ 200 := by omega
  by_cases h6 : 200 < vkl
  · have e6 : (200 : Int) < (vkl : Int) := by omega
    clear h1 h2 h3 h4 h5 h6
    go_enter Tryd.func25, Tryd.ntmps25
    go_wp2
    go_ret
    exact ⟨-1, rfl, by omega, fun h => absurd h (by omega), by first | exact Below.refl _ _ | exact bel1 w _⟩
  have e6 : (vkl : Int) ≤ 200 := by omega
  -- the loops
  have hD1 : 1 ≤ D := by omega
  have hW1 : Below w.heap.size w (w.alloc (.cells #[.int .i64 vop, .int .i64 vnum, .string vtx, .slice vpa vpl vpc, .slice vqa vql vqc, .bool vopn, .slice vka vkl vkc] 26)) := bel1 w _
  have hn := new_cells w #[.int .i64 vop, .int .i64 vnum, .string vtx, .slice vpa vpl vpc, .slice vqa vql vqc, .bool vopn, .slice vka vkl vkc] 26
  have HBX := Lib.hid hn
  clear hn
  go_enter Tryd.func25, Tryd.ntmps25
  go_wp2
  generalize w.alloc (.cells #[.int .i64 vop, .int .i64 vnum, .string vtx, .slice vpa vpl vpc, .slice vqa vql vqc, .bool vopn, .slice vka vkl vkc] 26) = w1 at hW1 HBX ⊢
  have hs1 := hW1.size
  have hb0 := cells_of HBX.out
  go_loopw [7] (fun i wr => wr = w1 ∧ ∃ k : Nat, k ≤ vpl ∧ i = .int .i64 k ∧ Hid (∀ i, i < k → (h : i < x.2.1.length) → (x.2.1[i]).size ≤ 400)) (fun i _ => vpl - (intOf i).toNat)
  case atStart => exact ⟨rfl, 0, Nat.zero_le _, rfl, fun i h => by omega⟩
  case round =>
    obtain ⟨rfl, k, hk, rfl, hok⟩ := hrel
    by_cases hlt : k < vpl
    · have i1 : (0 : Int) ≤ (k : Int) := by omega
      have i2 : (k : Int) < (vpl : Int) := by omega
      obtain ⟨g, off, rfl, hg, hc⟩ := HP.out.2.2 (by have := LP.out; omega)
      have c0 : wr.cell? ⟨g, off + k, none⟩ = _ := (hW1.cell (p := ⟨g, _, none⟩) (by show g < w.heap.size; omega)).trans (hc k (by have := LP.out; omega))
      have HOK := Lib.hid (show (x.2.1[k]'(by have := LP.out; omega)).size ≤ 400 → ∀ i, i < k + 1 → (h : i < x.2.1.length) → (x.2.1[i]).size ≤ 400 from fun hr i hi h => (Nat.lt_succ_iff_lt_or_eq.1 hi).elim (fun h' => hok.out i h' h) (fun e => by subst e; exact hr))
      generalize x.2.1[k]'(by have := LP.out; omega) = s at c0 HOK
      clear hc hok
      by_cases hs : s.size ≤ 400
      · have j1 : (s.size : Int) ≤ 400 := by omega
        have HOK2 := Lib.hid (HOK.out hs)
        clear HOK hs
        go_wp2
        go_roundw
        case rel => exact ⟨trivial, k + 1, by omega, by go_num, HOK2⟩
        case measure => simp [intOf]; omega
      · have j1 : (400 : Int) < (s.size : Int) := by omega
        clear HOK hs
        go_wp2
        go_ret
        exact ⟨-1, rfl, by omega, fun h => absurd h (by omega), hW1⟩
    · have hge : (vpl : Int) ≤ (k : Int) := by omega
      have HPS : Hid (∀ i, (h : i < x.2.1.length) → (x.2.1[i]).size ≤ 400) := Lib.hid (fun i h => hok.out i (by have := LP.out; omega) h)
      clear hok
      go_wp2
      obtain ⟨wr0, hwr0⟩ : ∃ wr0 : World, wr0 = wr := ⟨_, rfl⟩
      subst hwr0
      have hbl : w.heap.size < wr0.heap.size := by have := (Array.getElem?_eq_some_iff.1 HBX.out).1; exact this
      go_loopw [2, 8] (fun nn i wr => ∃ (k : Nat) (r : Int), k ≤ vql ∧ i = .int .i64 k ∧ nn = .int .i64 r ∧ r ≤ 200 ∧ Below wr0.heap.size wr0 wr ∧ Hid (0 ≤ r → (∀ i, i < k → (h : i < x.2.2.1.length) → (x.2.2.1[i]).1.size ≤ 400 ∧ SmallE n (D - 1) (x.2.2.1[i]).2) ∧ r + 1 + (sumL (fun p => cnt n p.2) (x.2.2.1.take k) : Int) = m)) (fun _ i _ => vql - (intOf i).toNat)
      case atStart => exact ⟨0, m - 1, Nat.zero_le _, rfl, rfl, by omega, Below.refl _ _, fun _ => ⟨fun i h => by omega, by simp [sumL]⟩⟩
      case round =>
        obtain ⟨k, r, hk, rfl, rfl, hr2, hbel, hok⟩ := hrel
        clear hge hb0
        have hs2 := hbel.size
        have hb : ∀ o, wr.cell? ⟨w.heap.size, o, none⟩ = #[.int .i64 vop, .int .i64 vnum, .string vtx, .slice vpa vpl vpc, .slice vqa vql vqc, .bool vopn, .slice vka vkl vkc][o]? := fun o => (hbel.cell (p := ⟨w.heap.size, o, none⟩) (by show w.heap.size < wr0.heap.size; exact hbl)).trans (cells_of HBX.out o)
        by_cases hlt : k < vql
        · have i1 : (0 : Int) ≤ (k : Int) := by omega
          have i2 : (k : Int) < (vql : Int) := by omega
          by_cases hr : 0 ≤ r
          · obtain ⟨g, off, rfl, hg, hc⟩ := HQ.out.2.2 (by have := LQ.out; omega)
            obtain ⟨v', hcn, hE, hI⟩ := hc k (by have := LQ.out; omega)
            have hbw : Below w.heap.size w wr := hW1.trans (hbel.mono hs1)
            have hgw : g < w.heap.size := by omega
            have cn : wr.cell? ⟨g, off + k * 8, none⟩ = _ := (hbw.cell (p := ⟨g, _, none⟩) hgw).trans hcn
            obtain ⟨d0, d1, d2, d3, d4, d5, d6⟩ := hE.kept (W' := wr) (fun o => hbw.cell (p := ⟨g, o, none⟩) hgw)
            have HC := Lib.hid (HL.out wr B v' (x.2.2.1[k]'(by have := LQ.out; omega)).2 (D - 1) r (by omega) (by omega) hr2 (ExIn.kept (hbw.mono hB) n _ _ hI))
            have eD : (D : Int) - 1 = ((D - 1 : Nat) : Int) := by omega
            have HED := Lib.hid eD
            have hst := Lib.hid (sumL_take (fun p => cnt n p.2) x.2.2.1 k (by have := LQ.out; omega))
            have HOK := Lib.hid (show (x.2.2.1[k]'(by have := LQ.out; omega)).1.size ≤ 400 → SmallE n (D - 1) (x.2.2.1[k]'(by have := LQ.out; omega)).2 → ∀ i, i < k + 1 → (h : i < x.2.2.1.length) → (x.2.2.1[i]).1.size ≤ 400 ∧ SmallE n (D - 1) (x.2.2.1[i]).2 from fun h1 h2 i hi h => (Nat.lt_succ_iff_lt_or_eq.1 hi).elim (fun h' => (hok.out hr).1 i h' h) (fun e => by subst e; exact ⟨h1, h2⟩))
            have hsum := Lib.hid (hok.out hr).2
            generalize (x.2.2.1[k]'(by have := LQ.out; omega)) = y at cn HC hst HOK
            obtain ⟨ys, ye⟩ := y
            simp only at cn HC hst HOK
            clear hc hcn hE hI hok eD hbw hgw
            by_cases hs : ys.size ≤ 400
            · have j1 : (ys.size : Int) ≤ 400 := by omega
              have HS := Lib.hid hs
              clear hs
              go_wp2_with (rw [HED.out]; go_at_call 25; (with_reducible refine HC.out.mono ?_); rintro e W2 ⟨r2, rfl, hr3, hsm, hb2⟩)
              have HSM := Lib.hid hsm
              clear hsm
              go_roundw
              case rel => exact ⟨k + 1, r2, by omega, by go_num, rfl, hr3, hbel.trans (hb2.mono hs2), Lib.hid (fun h => ⟨HOK.out HS.out (HSM.out h).1, by have h1 := (HSM.out h).2; have h2 := hsum.out; have h3 := hst.out; omega⟩)⟩
              case measure => simp [intOf]; omega
            · have j1 : (400 : Int) < (ys.size : Int) := by omega
              clear hs
              go_wp2
              go_ret
              exact ⟨-1, rfl, by omega, fun h => absurd h (by omega), hW1.trans (hbel.mono hs1)⟩
          · have hr' : r < 0 := by omega
            have HQ2 : Hid (0 ≤ r → (∀ i, (h : i < x.2.2.1.length) → (x.2.2.1[i]).1.size ≤ 400 ∧ SmallE n (D - 1) (x.2.2.1[i]).2) ∧ r + 1 + (sumL (fun p => cnt n p.2) x.2.2.1 : Int) = m) := Lib.hid (fun h => absurd h hr)
            clear hok hr
            go_wp2
            obtain ⟨wr1, hwr1⟩ : ∃ wr1 : World, wr1 = wr := ⟨_, rfl⟩
            subst hwr1
            go_loopw [2, 9] (fun nn i wr => ∃ (k : Nat) (r : Int), k ≤ vkl ∧ i = .int .i64 k ∧ nn = .int .i64 r ∧ r ≤ 200 ∧ Below wr1.heap.size wr1 wr ∧ Hid (0 ≤ r → (∀ i, (h : i < x.2.2.1.length) → (x.2.2.1[i]).1.size ≤ 400 ∧ SmallE n (D - 1) (x.2.2.1[i]).2) ∧ (∀ i, i < k → (h : i < x.2.2.2.length) → SmallE n (D - 1) x.2.2.2[i]) ∧ r + 1 + (sumL (fun p => cnt n p.2) x.2.2.1 : Int) + (sumL (cnt n) (x.2.2.2.take k) : Int) = m)) (fun _ i _ => vkl - (intOf i).toNat)
            case atStart => exact ⟨0, r, Nat.zero_le _, rfl, rfl, hr2, Below.refl _ _, fun h => ⟨(HQ2.out h).1, fun i h => by omega, by have := (HQ2.out h).2; simp [sumL]; omega⟩⟩
            case round =>
              obtain ⟨k3, r3, hk3, rfl, rfl, hr3, hbel3, hok3⟩ := hrel
              clear hb
              have hs3 := hbel3.size
              have hb3 : ∀ o, wr.cell? ⟨w.heap.size, o, none⟩ = #[.int .i64 vop, .int .i64 vnum, .string vtx, .slice vpa vpl vpc, .slice vqa vql vqc, .bool vopn, .slice vka vkl vkc][o]? := fun o => (hbel3.cell (p := ⟨w.heap.size, o, none⟩) (by show w.heap.size < wr1.heap.size; omega)).trans ((hbel.cell (p := ⟨w.heap.size, o, none⟩) (by show w.heap.size < wr0.heap.size; exact hbl)).trans (cells_of HBX.out o))
              have hbw : Below w.heap.size w wr := hW1.trans ((hbel.trans (hbel3.mono hs2)).mono hs1)
              by_cases hlt3 : k3 < vkl
              · have i3 : (0 : Int) ≤ (k3 : Int) := by omega
                have i4 : (k3 : Int) < (vkl : Int) := by omega
                by_cases hr4 : 0 ≤ r3
                · obtain ⟨g, off, rfl, hg, hc⟩ := HK.out.2.2 (by have := LK.out; omega)
                  obtain ⟨v', hE, hI⟩ := hc k3 (by have := LK.out; omega)
                  have hgw : g < w.heap.size := by omega
                  obtain ⟨d0, d1, d2, d3, d4, d5, d6⟩ := hE.kept (W' := wr) (fun o => hbw.cell (p := ⟨g, o, none⟩) hgw)
                  have HC := Lib.hid (HL.out wr B v' (x.2.2.2[k3]'(by have := LK.out; omega)) (D - 1) r3 (by omega) (by omega) hr3 (ExIn.kept (hbw.mono hB) n _ _ hI))
                  have eD : (D : Int) - 1 = ((D - 1 : Nat) : Int) := by omega
                  have HED := Lib.hid eD
                  have hst := Lib.hid (sumL_take (cnt n) x.2.2.2 k3 (by have := LK.out; omega))
                  have HOK := Lib.hid (show SmallE n (D - 1) (x.2.2.2[k3]'(by have := LK.out; omega)) → ∀ i, i < k3 + 1 → (h : i < x.2.2.2.length) → SmallE n (D - 1) x.2.2.2[i] from fun h2 i hi h => (Nat.lt_succ_iff_lt_or_eq.1 hi).elim (fun h' => (hok3.out hr4).2.1 i h' h) (fun e => by subst e; exact h2))
                  have hsum := Lib.hid (hok3.out hr4)
                  generalize (x.2.2.2[k3]'(by have := LK.out; omega)) = y at HC hst HOK
                  clear hc hE hI hok3 eD hbw hgw
                  go_wp2_with (rw [HED.out]; go_at_call 25; (with_reducible refine HC.out.mono ?_); rintro e W2 ⟨r5, rfl, hr5, hsm, hb5⟩)
                  have HSM := Lib.hid hsm
                  clear hsm
                  go_roundw
                  case rel => exact ⟨k3 + 1, r5, by omega, by go_num, rfl, hr5, hbel3.trans (hb5.mono hs3), Lib.hid (fun h => ⟨hsum.out.1, HOK.out (HSM.out h).1, by have h1 := (HSM.out h).2; have h2 := hsum.out.2.2; have h3 := hst.out; omega⟩)⟩
                  case measure => simp [intOf]; omega
                · have hr4' : r3 < 0 := by omega
                  clear hok3 hr4
                  go_wp2
                  go_ret
                  exact ⟨r3, rfl, by omega, fun h => absurd h (by omega), hbw⟩
              · have hge3 : (vkl : Int) ≤ (k3 : Int) := by omega
                have hfin : Hid (0 ≤ r3 → SmallE (n + 1) D x ∧ r3 + (cnt (n + 1) x : Int) = m) := Lib.hid (fun h => by
                  obtain ⟨p1, p2, p3⟩ := hok3.out h
                  rw [List.take_of_length_le (by have := LK.out; omega)] at p3
                  refine ⟨⟨hD1, by rw [← HTX.out]; omega, by have := LP.out; omega, by have := LQ.out; omega, by have := LK.out; omega, HPS.out, p1, fun i hi => p2 i (by have := LK.out; omega) hi⟩, ?_⟩
                  simp only [cnt]
                  omega)
                clear hok3
                by_cases hr4 : 0 ≤ r3
                · go_wp2
                  go_ret
                  exact ⟨r3, rfl, hr3, hfin.out, hbw⟩
                · have hr4' : r3 < 0 := by omega
                  clear hr4
                  go_wp2
                  go_ret
                  exact ⟨r3, rfl, hr3, hfin.out, hbw⟩
        · have hge : (vql : Int) ≤ (k : Int) := by omega
          have HQ2 : Hid (0 ≤ r → (∀ i, (h : i < x.2.2.1.length) → (x.2.2.1[i]).1.size ≤ 400 ∧ SmallE n (D - 1) (x.2.2.1[i]).2) ∧ r + 1 + (sumL (fun p => cnt n p.2) x.2.2.1 : Int) = m) := Lib.hid (fun h => ⟨fun i hi => (hok.out h).1 i (by have := LQ.out; omega) hi, by have h1 := (hok.out h).2; rw [List.take_of_length_le (by have := LQ.out; omega)] at h1; exact h1⟩)
          clear hok
          by_cases hr : 0 ≤ r
          · go_wp2
            obtain ⟨wr1, hwr1⟩ : ∃ wr1 : World, wr1 = wr := ⟨_, rfl⟩
            subst hwr1
            go_loopw [2, 9] (fun nn i wr => ∃ (k : Nat) (r : Int), k ≤ vkl ∧ i = .int .i64 k ∧ nn = .int .i64 r ∧ r ≤ 200 ∧ Below wr1.heap.size wr1 wr ∧ Hid (0 ≤ r → (∀ i, (h : i < x.2.2.1.length) → (x.2.2.1[i]).1.size ≤ 400 ∧ SmallE n (D - 1) (x.2.2.1[i]).2) ∧ (∀ i, i < k → (h : i < x.2.2.2.length) → SmallE n (D - 1) x.2.2.2[i]) ∧ r + 1 + (sumL (fun p => cnt n p.2) x.2.2.1 : Int) + (sumL (cnt n) (x.2.2.2.take k) : Int) = m)) (fun _ i _ => vkl - (intOf i).toNat)
            case atStart => exact ⟨0, r, Nat.zero_le _, rfl, rfl, hr2, Below.refl _ _, fun h => ⟨(HQ2.out h).1, fun i h => by omega, by have := (HQ2.out h).2; simp [sumL]; omega⟩⟩
            case round =>
              obtain ⟨k3, r3, hk3, rfl, rfl, hr3, hbel3, hok3⟩ := hrel
              clear hb
              have hs3 := hbel3.size
              have hb3 : ∀ o, wr.cell? ⟨w.heap.size, o, none⟩ = #[.int .i64 vop, .int .i64 vnum, .string vtx, .slice vpa vpl vpc, .slice vqa vql vqc, .bool vopn, .slice vka vkl vkc][o]? := fun o => (hbel3.cell (p := ⟨w.heap.size, o, none⟩) (by show w.heap.size < wr1.heap.size; omega)).trans ((hbel.cell (p := ⟨w.heap.size, o, none⟩) (by show w.heap.size < wr0.heap.size; exact hbl)).trans (cells_of HBX.out o))
              have hbw : Below w.heap.size w wr := hW1.trans ((hbel.trans (hbel3.mono hs2)).mono hs1)
              by_cases hlt3 : k3 < vkl
              · have i3 : (0 : Int) ≤ (k3 : Int) := by omega
                have i4 : (k3 : Int) < (vkl : Int) := by omega
                by_cases hr4 : 0 ≤ r3
                · obtain ⟨g, off, rfl, hg, hc⟩ := HK.out.2.2 (by have := LK.out; omega)
                  obtain ⟨v', hE, hI⟩ := hc k3 (by have := LK.out; omega)
                  have hgw : g < w.heap.size := by omega
                  obtain ⟨d0, d1, d2, d3, d4, d5, d6⟩ := hE.kept (W' := wr) (fun o => hbw.cell (p := ⟨g, o, none⟩) hgw)
                  have HC := Lib.hid (HL.out wr B v' (x.2.2.2[k3]'(by have := LK.out; omega)) (D - 1) r3 (by omega) (by omega) hr3 (ExIn.kept (hbw.mono hB) n _ _ hI))
                  have eD : (D : Int) - 1 = ((D - 1 : Nat) : Int) := by omega
                  have HED := Lib.hid eD
                  have hst := Lib.hid (sumL_take (cnt n) x.2.2.2 k3 (by have := LK.out; omega))
                  have HOK := Lib.hid (show SmallE n (D - 1) (x.2.2.2[k3]'(by have := LK.out; omega)) → ∀ i, i < k3 + 1 → (h : i < x.2.2.2.length) → SmallE n (D - 1) x.2.2.2[i] from fun h2 i hi h => (Nat.lt_succ_iff_lt_or_eq.1 hi).elim (fun h' => (hok3.out hr4).2.1 i h' h) (fun e => by subst e; exact h2))
                  have hsum := Lib.hid (hok3.out hr4)
                  generalize (x.2.2.2[k3]'(by have := LK.out; omega)) = y at HC hst HOK
                  clear hc hE hI hok3 eD hbw hgw
                  go_wp2_with (rw [HED.out]; go_at_call 25; (with_reducible refine HC.out.mono ?_); rintro e W2 ⟨r5, rfl, hr5, hsm, hb5⟩)
                  have HSM := Lib.hid hsm
                  clear hsm
                  go_roundw
                  case rel => exact ⟨k3 + 1, r5, by omega, by go_num, rfl, hr5, hbel3.trans (hb5.mono hs3), Lib.hid (fun h => ⟨hsum.out.1, HOK.out (HSM.out h).1, by have h1 := (HSM.out h).2; have h2 := hsum.out.2.2; have h3 := hst.out; omega⟩)⟩
                  case measure => simp [intOf]; omega
                · have hr4' : r3 < 0 := by omega
                  clear hok3 hr4
                  go_wp2
                  go_ret
                  exact ⟨r3, rfl, by omega, fun h => absurd h (by omega), hbw⟩
              · have hge3 : (vkl : Int) ≤ (k3 : Int) := by omega
                have hfin : Hid (0 ≤ r3 → SmallE (n + 1) D x ∧ r3 + (cnt (n + 1) x : Int) = m) := Lib.hid (fun h => by
                  obtain ⟨p1, p2, p3⟩ := hok3.out h
                  rw [List.take_of_length_le (by have := LK.out; omega)] at p3
                  refine ⟨⟨hD1, by rw [← HTX.out]; omega, by have := LP.out; omega, by have := LQ.out; omega, by have := LK.out; omega, HPS.out, p1, fun i hi => p2 i (by have := LK.out; omega) hi⟩, ?_⟩
                  simp only [cnt]
                  omega)
                clear hok3
                by_cases hr4 : 0 ≤ r3
                · go_wp2
                  go_ret
                  exact ⟨r3, rfl, hr3, hfin.out, hbw⟩
                · have hr4' : r3 < 0 := by omega
                  clear hr4
                  go_wp2
                  go_ret
                  exact ⟨r3, rfl, hr3, hfin.out, hbw⟩
          · have hr' : r < 0 := by omega
            clear hr
            go_wp2
            obtain ⟨wr1, hwr1⟩ : ∃ wr1 : World, wr1 = wr := ⟨_, rfl⟩
            subst hwr1
            go_loopw [2, 9] (fun nn i wr => ∃ (k : Nat) (r : Int), k ≤ vkl ∧ i = .int .i64 k ∧ nn = .int .i64 r ∧ r ≤ 200 ∧ Below wr1.heap.size wr1 wr ∧ Hid (0 ≤ r → (∀ i, (h : i < x.2.2.1.length) → (x.2.2.1[i]).1.size ≤ 400 ∧ SmallE n (D - 1) (x.2.2.1[i]).2) ∧ (∀ i, i < k → (h : i < x.2.2.2.length) → SmallE n (D - 1) x.2.2.2[i]) ∧ r + 1 + (sumL (fun p => cnt n p.2) x.2.2.1 : Int) + (sumL (cnt n) (x.2.2.2.take k) : Int) = m)) (fun _ i _ => vkl - (intOf i).toNat)
            case atStart => exact ⟨0, r, Nat.zero_le _, rfl, rfl, hr2, Below.refl _ _, fun h => ⟨(HQ2.out h).1, fun i h => by omega, by have := (HQ2.out h).2; simp [sumL]; omega⟩⟩
            case round =>
              obtain ⟨k3, r3, hk3, rfl, rfl, hr3, hbel3, hok3⟩ := hrel
              clear hb
              have hs3 := hbel3.size
              have hb3 : ∀ o, wr.cell? ⟨w.heap.size, o, none⟩ = #[.int .i64 vop, .int .i64 vnum, .string vtx, .slice vpa vpl vpc, .slice vqa vql vqc, .bool vopn, .slice vka vkl vkc][o]? := fun o => (hbel3.cell (p := ⟨w.heap.size, o, none⟩) (by show w.heap.size < wr1.heap.size; omega)).trans ((hbel.cell (p := ⟨w.heap.size, o, none⟩) (by show w.heap.size < wr0.heap.size; exact hbl)).trans (cells_of HBX.out o))
              have hbw : Below w.heap.size w wr := hW1.trans ((hbel.trans (hbel3.mono hs2)).mono hs1)
              by_cases hlt3 : k3 < vkl
              · have i3 : (0 : Int) ≤ (k3 : Int) := by omega
                have i4 : (k3 : Int) < (vkl : Int) := by omega
                by_cases hr4 : 0 ≤ r3
                · obtain ⟨g, off, rfl, hg, hc⟩ := HK.out.2.2 (by have := LK.out; omega)
                  obtain ⟨v', hE, hI⟩ := hc k3 (by have := LK.out; omega)
                  have hgw : g < w.heap.size := by omega
                  obtain ⟨d0, d1, d2, d3, d4, d5, d6⟩ := hE.kept (W' := wr) (fun o => hbw.cell (p := ⟨g, o, none⟩) hgw)
                  have HC := Lib.hid (HL.out wr B v' (x.2.2.2[k3]'(by have := LK.out; omega)) (D - 1) r3 (by omega) (by omega) hr3 (ExIn.kept (hbw.mono hB) n _ _ hI))
                  have eD : (D : Int) - 1 = ((D - 1 : Nat) : Int) := by omega
                  have HED := Lib.hid eD
                  have hst := Lib.hid (sumL_take (cnt n) x.2.2.2 k3 (by have := LK.out; omega))
                  have HOK := Lib.hid (show SmallE n (D - 1) (x.2.2.2[k3]'(by have := LK.out; omega)) → ∀ i, i < k3 + 1 → (h : i < x.2.2.2.length) → SmallE n (D - 1) x.2.2.2[i] from fun h2 i hi h => (Nat.lt_succ_iff_lt_or_eq.1 hi).elim (fun h' => (hok3.out hr4).2.1 i h' h) (fun e => by subst e; exact h2))
                  have hsum := Lib.hid (hok3.out hr4)
                  generalize (x.2.2.2[k3]'(by have := LK.out; omega)) = y at HC hst HOK
                  clear hc hE hI hok3 eD hbw hgw
                  go_wp2_with (rw [HED.out]; go_at_call 25; (with_reducible refine HC.out.mono ?_); rintro e W2 ⟨r5, rfl, hr5, hsm, hb5⟩)
                  have HSM := Lib.hid hsm
                  clear hsm
                  go_roundw
                  case rel => exact ⟨k3 + 1, r5, by omega, by go_num, rfl, hr5, hbel3.trans (hb5.mono hs3), Lib.hid (fun h => ⟨hsum.out.1, HOK.out (HSM.out h).1, by have h1 := (HSM.out h).2; have h2 := hsum.out.2.2; have h3 := hst.out; omega⟩)⟩
                  case measure => simp [intOf]; omega
                · have hr4' : r3 < 0 := by omega
                  clear hok3 hr4
                  go_wp2
                  go_ret
                  exact ⟨r3, rfl, by omega, fun h => absurd h (by omega), hbw⟩
              · have hge3 : (vkl : Int) ≤ (k3 : Int) := by omega
                have hfin : Hid (0 ≤ r3 → SmallE (n + 1) D x ∧ r3 + (cnt (n + 1) x : Int) = m) := Lib.hid (fun h => by
                  obtain ⟨p1, p2, p3⟩ := hok3.out h
                  rw [List.take_of_length_le (by have := LK.out; omega)] at p3
                  refine ⟨⟨hD1, by rw [← HTX.out]; omega, by have := LP.out; omega, by have := LQ.out; omega, by have := LK.out; omega, HPS.out, p1, fun i hi => p2 i (by have := LK.out; omega) hi⟩, ?_⟩
                  simp only [cnt]
                  omega)
                clear hok3
                by_cases hr4 : 0 ≤ r3
                · go_wp2
                  go_ret
                  exact ⟨r3, rfl, hr3, hfin.out, hbw⟩
                · have hr4' : r3 < 0 := by omega
                  clear hr4
                  go_wp2
                  go_ret
                  exact ⟨r3, rfl, hr3, hfin.out, hbw⟩
end Go.Proofs.YtigdibglkejciaaDoor.Ex
