/-
  Spoil, walked.
-/
import Derived.Test.YtigdibglkejciaaDoorE47
namespace Go.Proofs.YtigdibglkejciaaDoor.Ex
open Go.RowKit Go
set_option linter.unusedSimpArgs false

def SpoilOk (n : Nat) : Prop := ∀ (w : World) (lo : Nat) (v : V7) (d : Int), lo ≤ w.heap.size → 0 ≤ d → d ≤ 30 → Shape w lo n v → Calls Tryd.prog 16 #[.agg #[.int .i64 v.op, .int .i64 v.num, .string v.tx, .slice v.pa v.pl v.pc, .slice v.qa v.ql v.qc, .bool v.opn, .slice v.ka v.kl v.kc], .int .i64 d] w fun e w' => (∃ u, e = .returned u) ∧ Sp lo w w'
theorem box_sp {lo b : Nat} {w w' : World} {c : Array Value} (h : Sp lo w w') (hb : w.heap[b]? = some (.cells c 26 (0, 0))) {o : Nat} (ho : o % 7 ≠ 0) : w'.cell? ⟨b, o, none⟩ = c[o]? :=
  (((h.k b ⟨c, hb⟩).2 o).1 ho).trans (cells_of hb o)
set_option maxRecDepth 100000 in
set_option maxHeartbeats 8000000 in
theorem spoil_succ (n : Nat) (HD : Hid (SpoilOk n)) : SpoilOk (n + 1) := by
  intro w lo v d hlo hd0 hd30 hsh
  obtain ⟨vop, vnum, vtx, vpa, vpl, vpc, vqa, vql, vqc, vopn, vka, vkl, vkc⟩ := v
  have HB := Lib.hid (new_cells w #[.int .i64 vop, .int .i64 vnum, .string vtx, .slice vpa vpl vpc, .slice vqa vql vqc, .bool vopn, .slice vka vkl vkc] 26)
  have hb1 := bel1 w (.cells #[.int .i64 vop, .int .i64 vnum, .string vtx, .slice vpa vpl vpc, .slice vqa vql vqc, .bool vopn, .slice vka vkl vkc] 26)
  have hs1 := hb1.size
  have HS := Lib.hid (Shape.sp (Sp.of_below hb1 hlo) _ _ hsh)
  have HSP := Lib.hid (Sp.of_below hb1 hlo)
  have hm1 : vpl ≤ 9223372036854775807 := by have := hsh.2.2.2.1; unfold maxLen at this; exact this
  have hm2 : vql ≤ 9223372036854775807 := by have := hsh.2.2.2.2.1; unfold maxLen at this; exact this
  have hm3 : vkl ≤ 9223372036854775807 := by have := hsh.2.2.2.2.2; unfold maxLen at this; exact this
  have hlo1 : lo ≤ (w.alloc (.cells #[.int .i64 vop, .int .i64 vnum, .string vtx, .slice vpa vpl vpc, .slice vqa vql vqc, .bool vopn, .slice vka vkl vkc] 26)).heap.size := by omega
  have hwr : IntKind.i64.wrap (d - 1) = d - 1 := by rw [IntKind.wrap_i64]; omega
  clear hsh hb1
  go_enter Tryd.func16, Tryd.ntmps16
  go_wp2
  generalize w.alloc (.cells #[.int .i64 vop, .int .i64 vnum, .string vtx, .slice vpa vpl vpc, .slice vqa vql vqc, .bool vopn, .slice vka vkl vkc] 26) = w1 at HB HS HSP hlo1 hs1 ⊢
  go_loopw [4] (fun i wr => ∃ k : Nat, k ≤ vpl ∧ i = .int .i64 k ∧ Hid (Sp lo w1 wr)) (fun i _ => vpl - (intOf i).toNat)
  case atStart => exact ⟨0, Nat.zero_le _, rfl, Lib.hid (Sp.refl hlo1)⟩
  case round =>
    obtain ⟨k, hk, rfl, hsp⟩ := hrel
    have c3 := box_sp hsp.out HB.out (o := 3) (by decide)
    by_cases hlt : k < vpl
    · have i1 : (0 : Int) ≤ (k : Int) := by omega
      have i2 : (k : Int) < (vpl : Int) := by omega
      obtain ⟨g, e, hg, hbk, hc⟩ := (Shape.sp hsp.out _ _ HS.out).1 (by show 0 < vpl; omega)
      obtain ⟨x0, cx⟩ := Option.isSome_iff_exists.1 (hc k hlt)
      have fx := hbk.free
      simp only at e
      rw [e] at c3
      have HN := Lib.hid (hsp.out.trans (Sp.setS (o := k) (u := .string ⟨#[115, 112, 111, 105, 108, 116]⟩) hbk hg))
      clear hc hbk
      go_wp2
      go_roundw
      case rel => exact ⟨k + 1, by omega, by go_num, HN⟩
      case measure => simp [intOf]; omega
    · have hge : (vpl : Int) ≤ (k : Int) := by omega
      have hnl : ¬ ((k : Int) < (vpl : Int)) := by omega
      have c4 := box_sp hsp.out HB.out (o := 4) (by decide)
      obtain ⟨wo, hwo⟩ : ∃ wo, wo = wr := ⟨_, rfl⟩
      subst hwo
      have HPO := Lib.hid hsp.out
      clear hsp hk
      go_wp2
      go_loopw [5] (fun i wr => ∃ k : Nat, k ≤ vql ∧ i = .int .i64 k ∧ Hid (Sp lo w1 wr)) (fun i _ => vql - (intOf i).toNat)
      case atStart => exact ⟨0, Nat.zero_le _, rfl, HPO⟩
      case round =>
        obtain ⟨k, hk, rfl, hsp⟩ := hrel
        have c4 := box_sp hsp.out HB.out (o := 4) (by decide)
        by_cases hlt : k < vql
        · have i1 : (0 : Int) ≤ (k : Int) := by omega
          have i2 : (k : Int) < (vql : Int) := by omega
          by_cases hd : 0 < d
          · obtain ⟨g, e, hg, hbk, hc⟩ := (Shape.sp hsp.out _ _ HS.out).2.1 (by show 0 < vql; omega)
            obtain ⟨hs0, u, hE, hSu⟩ := hc k hlt
            obtain ⟨uop, unum, utx, upa, upl, upc, uqa, uql, uqc, uopn, uka, ukl, ukc⟩ := u
            simp only at e
            rw [e] at c4
            have HE := Lib.hid e
            clear e
            obtain ⟨d0, d1, d2, d3, d4, d5, d6⟩ := hE
            have HC := Lib.hid (HD.out wr lo ⟨uop, unum, utx, upa, upl, upc, uqa, uql, uqc, uopn, uka, ukl, ukc⟩ (d - 1) (Nat.le_trans hlo1 hsp.out.bel.size) (by omega) (by omega) hSu)
            have HS0 := Lib.hid hs0
            have HBK := Lib.hid hbk
            clear hc hSu hs0 hbk
            go_wp2_with (go_at_call 16; (with_reducible refine HC.out.mono ?_); rintro e w3 ⟨⟨ur, rfl⟩, hs3⟩; have c43 := box_sp (hsp.out.trans hs3) HB.out (o := 4) (by decide); simp only [List.getElem?_toArray, List.getElem?_cons_succ, List.getElem?_cons_zero] at c43; rw [HE.out] at c43; have hb3 := (hs3.p _ HBK.out).1; have f3 := hb3.free; obtain ⟨x3, cx3⟩ := Option.isSome_iff_exists.1 (((hs3.p _ HBK.out).2 _).2 HS0.out); have HN := Lib.hid (hsp.out.trans (hs3.trans (Sp.setP (i := k) (u := .string ⟨#[115, 112, 111, 105, 108, 116]⟩) hb3 hg))); clear hs3 hb3)
            go_roundw
            case rel => exact ⟨k + 1, by omega, by go_num, HN⟩
            case measure => simp [intOf]; omega
          · have hnd : ¬ (0 < d) := hd
            have hd0' : d = 0 := by omega
            have hdf : ¬ (0 < d) := hd
            subst hd0'
            obtain ⟨wo, hwo⟩ : ∃ wo, wo = wr := ⟨_, rfl⟩
            subst hwo
            have HPO := Lib.hid hsp.out
            clear hsp hk
            go_wp2
            go_loopw [6] (fun i wr => ∃ k : Nat, k ≤ vkl ∧ i = .int .i64 k ∧ Hid (Sp lo w1 wr)) (fun i _ => vkl - (intOf i).toNat)
            case atStart => exact ⟨0, Nat.zero_le _, rfl, HPO⟩
            case round =>
              obtain ⟨k, hk, rfl, hsp⟩ := hrel
              have c6 := box_sp hsp.out HB.out (o := 6) (by decide)
              by_cases hlt : k < vkl
              · have i1 : (0 : Int) ≤ (k : Int) := by omega
                have i2 : (k : Int) < (vkl : Int) := by omega
                have HPE := Lib.hid (HSP.out.trans hsp.out)
                clear hsp
                go_wp2
                go_end0
                exact ⟨⟨_, rfl⟩, HPE.out⟩
              · have hge : (vkl : Int) ≤ (k : Int) := by omega
                have hnl : ¬ ((k : Int) < (vkl : Int)) := by omega
                have HPE := Lib.hid (HSP.out.trans hsp.out)
                clear hsp
                go_wp2
                go_end0
                exact ⟨⟨_, rfl⟩, HPE.out⟩
        · have hge : (vql : Int) ≤ (k : Int) := by omega
          have hnl : ¬ ((k : Int) < (vql : Int)) := by omega
          obtain ⟨wo, hwo⟩ : ∃ wo, wo = wr := ⟨_, rfl⟩
          subst hwo
          have HPO := Lib.hid hsp.out
          clear hsp hk
          go_wp2
          go_loopw [6] (fun i wr => ∃ k : Nat, k ≤ vkl ∧ i = .int .i64 k ∧ Hid (Sp lo w1 wr)) (fun i _ => vkl - (intOf i).toNat)
          case atStart => exact ⟨0, Nat.zero_le _, rfl, HPO⟩
          case round =>
            obtain ⟨k, hk, rfl, hsp⟩ := hrel
            have c6 := box_sp hsp.out HB.out (o := 6) (by decide)
            by_cases hlt : k < vkl
            · have i1 : (0 : Int) ≤ (k : Int) := by omega
              have i2 : (k : Int) < (vkl : Int) := by omega
              by_cases hd : 0 < d
              · obtain ⟨g, e, hg, hbk, hc⟩ := (Shape.sp hsp.out _ _ HS.out).2.2.1 (by show 0 < vkl; omega)
                obtain ⟨u, hE, hSu⟩ := hc k hlt
                obtain ⟨uop, unum, utx, upa, upl, upc, uqa, uql, uqc, uopn, uka, ukl, ukc⟩ := u
                simp only at e
                rw [e] at c6
                have HE := Lib.hid e
                clear e
                obtain ⟨d0, d1, d2, d3, d4, d5, d6⟩ := hE
                have HC := Lib.hid (HD.out wr lo ⟨uop, unum, utx, upa, upl, upc, uqa, uql, uqc, uopn, uka, ukl, ukc⟩ (d - 1) (Nat.le_trans hlo1 hsp.out.bel.size) (by omega) (by omega) hSu)
                have HBK := Lib.hid hbk
                have HD0 := Lib.hid d0
                clear hc hSu hbk
                go_wp2_with (go_at_call 16; (with_reducible refine HC.out.mono ?_); rintro e w3 ⟨⟨ur, rfl⟩, hs3⟩; have c63 := box_sp (hsp.out.trans hs3) HB.out (o := 6) (by decide); simp only [List.getElem?_toArray, List.getElem?_cons_succ, List.getElem?_cons_zero] at c63; rw [HE.out] at c63; have hb3 := (hs3.k _ HBK.out).1; have f3 := hb3.free; obtain ⟨x3, cx3⟩ := ((hs3.k _ HBK.out).2 _).2 _ HD0.out; have HN := Lib.hid (hsp.out.trans (hs3.trans (Sp.setK (i := k) (q := 99) hb3 hg))); clear hs3 hb3)
                go_roundw
                case rel => exact ⟨k + 1, by omega, by go_num, HN⟩
                case measure => simp [intOf]; omega
              · have hnd : ¬ (0 < d) := hd
                have HPE := Lib.hid (HSP.out.trans hsp.out)
                clear hsp
                go_wp2
                go_end0
                exact ⟨⟨_, rfl⟩, HPE.out⟩
            · have hge : (vkl : Int) ≤ (k : Int) := by omega
              have hnl : ¬ ((k : Int) < (vkl : Int)) := by omega
              have HPE := Lib.hid (HSP.out.trans hsp.out)
              clear hsp
              go_wp2
              go_end0
              exact ⟨⟨_, rfl⟩, HPE.out⟩
theorem spoil_ok : ∀ n, SpoilOk n
  | 0 => fun _ _ _ _ _ _ _ h => h.elim
  | n + 1 => spoil_succ n (Lib.hid (spoil_ok n))
end Go.Proofs.YtigdibglkejciaaDoor.Ex
