/-
  Spoil, walked: it changes only numbers and names of blocks of the value's own.
-/
import Derived.Test.YtigdibglkejciaaR19
namespace Go.Proofs.Ytigdibglkejciaa.Rank
open Go.RowKit

/-- The shape of a value in memory of its own. -/
def Shape (w : World) (lo : Nat) : (n : Nat) → Option Addr → Nat → Prop
  | 0 => fun _ len => len = 0
  | n + 1 => fun a len => len ≤ 9223372036854775807 ∧ (0 < len → ∃ g, a = some ⟨g, 0, none⟩ ∧ lo ≤ g ∧ blk w 33 g ∧ ∀ i, i < len → (w.cell? ⟨g, i * 8 + 1, none⟩).isSome ∧
      ∃ fa fl fc, w.cell? ⟨g, i * 8 + 7, none⟩ = some (.slice fa fl fc) ∧ fl ≤ 9223372036854775807 ∧
        (0 < fl → ∃ h, fa = some ⟨h, 0, none⟩ ∧ lo ≤ h ∧ blk w 87 h ∧ ∀ l, l < fl → (w.cell? ⟨h, l * 2, none⟩).isSome ∧ ∃ ta tl tc, w.cell? ⟨h, l * 2 + 1, none⟩ = some (.slice ta tl tc) ∧ Shape w lo n ta tl))
theorem ValOwn.shape : ∀ {n : Nat} {w : World} {lo : Nat} {a : Option Addr} {len cap : Nat} {v : List (Trm n)}, ValOwn w lo n a len cap v → Shape w lo n a len
  | 0, _, _, _, _, _, _, h => h.1
  | n + 1, w, lo, a, len, cap, v, h => by
    obtain ⟨h1, h2, h3, h4, h5⟩ := h
    unfold maxLen at h3
    refine ⟨by omega, fun hp => ?_⟩
    obtain ⟨b, off, rfl, ⟨rfl, hlo, hk⟩, hi⟩ := h5 (by intro h0; rw [h0] at h1; simp at h1; omega)
    refine ⟨b, rfl, hlo, hk, fun i hi' => ?_⟩
    obtain ⟨fa, fl, fc, ⟨c0, c1, c2, c3, c4, c5, c6, c7⟩, hf⟩ := hi i (by omega)
    simp only [Nat.zero_add] at c1 c7
    refine ⟨by rw [c1]; rfl, fa, fl, fc, c7, ?_, fun hpf => ?_⟩
    · obtain ⟨g1, g2, g3, _⟩ := hf
      unfold maxLen at g3; omega
    · obtain ⟨g1, g2, g3, g4, g5⟩ := hf
      obtain ⟨b', off', rfl, ⟨rfl, hlo', hk'⟩, hl⟩ := g5 (by intro h0; rw [h0] at g1; simp at g1; omega)
      refine ⟨b', rfl, hlo', hk', fun l hl' => ?_⟩
      obtain ⟨d0, ta, tl, tc, d1, hV⟩ := hl l (by omega)
      simp only [Nat.zero_add] at d0 d1
      exact ⟨by rw [d0]; rfl, ta, tl, tc, d1, ValOwn.shape hV⟩

/-- From memory to memory: only numbers and names of blocks from lo on have changed. -/
structure Sp (lo : Nat) (w w' : World) : Prop where
  below : Below lo w w'
  others : ∀ b, b < w.heap.size → ¬ blk w 33 b → ¬ blk w 87 b → w'.heap[b]? = w.heap[b]?
  terms : ∀ b, blk w 33 b → blk w' 33 b ∧ ∀ o, o % 8 ≠ 1 → w'.cell? ⟨b, o, none⟩ = w.cell? ⟨b, o, none⟩
  fields : ∀ b, blk w 87 b → blk w' 87 b ∧ ∀ o, o % 2 ≠ 0 → w'.cell? ⟨b, o, none⟩ = w.cell? ⟨b, o, none⟩
  there : ∀ b o, (w.cell? ⟨b, o, none⟩).isSome → (w'.cell? ⟨b, o, none⟩).isSome
theorem Sp.refl (lo : Nat) (w : World) : Sp lo w w := ⟨Below.refl _ _, fun _ _ _ _ => rfl, fun _ h => ⟨h, fun _ _ => rfl⟩, fun _ h => ⟨h, fun _ _ => rfl⟩, fun _ _ h => h⟩
theorem blk_same {w w' : World} {T : TypeId} {b : Nat} (e : w'.heap[b]? = w.heap[b]?) : blk w' T b ↔ blk w T b := by unfold blk; rw [e]
theorem Sp.trans {lo : Nat} {w w' w'' : World} (h : Sp lo w w') (k : Sp lo w' w'') : Sp lo w w'' where
  below := h.below.trans k.below
  others b hb h1 h2 := by
    have e := h.others b hb h1 h2
    exact (k.others b (Nat.lt_of_lt_of_le hb h.below.size) (fun x => h1 ((blk_same e).1 x)) (fun x => h2 ((blk_same e).1 x))).trans e
  terms b hb := ⟨(k.terms b (h.terms b hb).1).1, fun o ho => ((k.terms b (h.terms b hb).1).2 o ho).trans ((h.terms b hb).2 o ho)⟩
  fields b hb := ⟨(k.fields b (h.fields b hb).1).1, fun o ho => ((k.fields b (h.fields b hb).1).2 o ho).trans ((h.fields b hb).2 o ho)⟩
  there b o hb := k.there b o (h.there b o hb)
theorem blk_not {w : World} {b : Nat} (h : blk w 33 b) : ¬ blk w 87 b := by
  obtain ⟨c, hc⟩ := h
  rintro ⟨d, hd⟩
  rw [hc] at hd
  cases hd
theorem Sp.setT {lo g i : Nat} {w : World} {u : Value} (hk : blk w 33 g) (hlo : lo ≤ g) : Sp lo w (w.setCell ⟨g, i * 8 + 1, none⟩ u) where
  below := below_set hlo
  others b _ h1 _ := by
    have hne : b ≠ g := by rintro rfl; exact h1 hk
    exact Below.heap_setCell w ⟨g, i * 8 + 1, none⟩ u b hne
  terms b hb := ⟨hb.setCell _ _, fun o ho => cell_set_ne _ _ _ _ _ _ (Or.inr (by omega))⟩
  fields b hb := ⟨hb.setCell _ _, fun o ho => cell_set_ne _ _ _ _ _ _ (Or.inl (by rintro rfl; exact blk_not hk hb))⟩
  there b o hb := by
    obtain ⟨z, hz⟩ := Option.isSome_iff_exists.1 hb
    obtain ⟨z', hz'⟩ := cell?_setCell_some (w := w) (p := ⟨g, i * 8 + 1, none⟩) (x := u) hz
    rw [hz']; rfl
theorem Sp.setF {lo g i : Nat} {w : World} {u : Value} (hk : blk w 87 g) (hlo : lo ≤ g) : Sp lo w (w.setCell ⟨g, i * 2, none⟩ u) where
  below := below_set hlo
  others b _ _ h2 := by
    have hne : b ≠ g := by rintro rfl; exact h2 hk
    exact Below.heap_setCell w ⟨g, i * 2, none⟩ u b hne
  terms b hb := ⟨hb.setCell _ _, fun o ho => cell_set_ne _ _ _ _ _ _ (Or.inl (by rintro rfl; exact blk_not hb hk))⟩
  fields b hb := ⟨hb.setCell _ _, fun o ho => cell_set_ne _ _ _ _ _ _ (Or.inr (by omega))⟩
  there b o hb := by
    obtain ⟨z, hz⟩ := Option.isSome_iff_exists.1 hb
    obtain ⟨z', hz'⟩ := cell?_setCell_some (w := w) (p := ⟨g, i * 2, none⟩) (x := u) hz
    rw [hz']; rfl
theorem Sp.of_below {lo : Nat} {w w' : World} (h : Below w.heap.size w w') (hlo : lo ≤ w.heap.size) : Sp lo w w' where
  below := h.mono hlo
  others b hb _ _ := h.block b hb
  terms b hb := ⟨hb.below h hb.lt, fun o _ => h.cell (p := ⟨b, o, none⟩) hb.lt⟩
  fields b hb := ⟨hb.below h hb.lt, fun o _ => h.cell (p := ⟨b, o, none⟩) hb.lt⟩
  there b o hb := by
    obtain ⟨z, hz⟩ := Option.isSome_iff_exists.1 hb
    have hlt : b < w.heap.size := World.block_lt_of_cell? _ _ hz
    rw [h.cell (p := ⟨b, o, none⟩) hlt]; exact hb
theorem Shape.sp {lo : Nat} {w w' : World} (h : Sp lo w w') : ∀ {n : Nat} {a : Option Addr} {len : Nat}, Shape w lo n a len → Shape w' lo n a len
  | 0, _, _, hv => hv
  | n + 1, a, len, ⟨hl, hv⟩ => by
    refine ⟨hl, fun hp => ?_⟩
    obtain ⟨g, e, hlo, hk, hi⟩ := hv hp
    refine ⟨g, e, hlo, (h.terms g hk).1, fun i hi' => ?_⟩
    obtain ⟨t1, fa, fl, fc, c7, hfl, hf⟩ := hi i hi'
    refine ⟨h.there _ _ t1, fa, fl, fc, ((h.terms g hk).2 _ (by omega)).trans c7, hfl, fun hpf => ?_⟩
    obtain ⟨b, e', hlo', hk', hl'⟩ := hf hpf
    refine ⟨b, e', hlo', (h.fields b hk').1, fun l hl'' => ?_⟩
    obtain ⟨t2, ta, tl, tc, d1, hs⟩ := hl' l hl''
    exact ⟨h.there _ _ t2, ta, tl, tc, ((h.fields b hk').2 _ (by omega)).trans d1, Shape.sp h hs⟩

def SpoilOk (n : Nat) : Prop := ∀ (W : World) (lo : Nat) (_ : lo ≤ W.heap.size) (a : Option Addr) (len cap : Nat) (d : Int), 0 ≤ d → d ≤ 20 → Shape W lo n a len →
  Calls Try.prog 51 #[.agg #[.slice a len cap], .int .i64 d] W fun e w' => e = .returned (.tuple #[]) ∧ Sp lo W w'
theorem spoil_zero : SpoilOk 0 := by
  intro w lo hlo a len cap d hd0 hd1 hs
  obtain rfl : len = 0 := hs
  go_enter Try.func51, Try.ntmps51
  go_wp2
  go_loop [4] (fun i => i = .int .i64 0) (fun _ => 0)
  case atStart => rfl
  case round =>
    subst hrel
    go_wp2
    go_end0
    exact ⟨rfl, Sp.of_below (bel1 _ _) hlo⟩

theorem box_not {w : World} {b : Nat} {c : Array Value} (h : w.heap[b]? = some (.cells c 47 (0, 0))) : ¬ blk w 33 b ∧ ¬ blk w 87 b := by
  constructor <;> (rintro ⟨d, hd⟩; rw [h] at hd; cases hd)
theorem box_cell {w : World} {b : Nat} {c : Array Value} (h : w.heap[b]? = some (.cells c 47 (0, 0))) (o : Nat) : w.cell? ⟨b, o, none⟩ = c[o]? := by
  simp [World.cell?, h]
theorem box_new (w : World) (c : Array Value) (T : TypeId) : (w.alloc (.cells c T)).heap[w.heap.size]? = some (.cells c T (0, 0)) := by
  show (w.heap.push _)[w.heap.size]? = _
  exact Array.getElem?_push_size
theorem Sp.box {lo : Nat} {w w' : World} (h : Sp lo w w') {b : Nat} {c : Array Value} (hb : w.heap[b]? = some (.cells c 47 (0, 0))) : w'.heap[b]? = some (.cells c 47 (0, 0)) :=
  (h.others b (lt_of_block hb) (box_not hb).1 (box_not hb).2).trans hb
set_option maxHeartbeats 4000000 in
theorem spoil_succ (n : Nat) (HW : Hid (SpoilOk n)) : SpoilOk (n + 1) := by
  intro w lo hlo a len cap d hd0 hd1 hs
  have hbx := box_new w #[.slice a len cap] 47
  have hsp := Sp.of_below (bel1 w (.cells #[.slice a len cap] 47)) hlo
  have hsz : (w.alloc (.cells #[.slice a len cap] 47)).heap.size = w.heap.size + 1 := by simp
  go_enter Try.func51, Try.ntmps51
  go_wp2
  generalize w.alloc (.cells #[.slice a len cap] 47) = W at hbx hsp hsz ⊢
  have HS := Lib.hid (hs.sp hsp)
  have hm := hs.1
  have HBX := Lib.hid hbx
  have hlW : w.heap.size < W.heap.size := by omega
  have hloW : lo ≤ W.heap.size := by omega
  clear hs hbx hsz
  go_loopw [4] (fun i wr => ∃ k : Nat, k ≤ len ∧ i = .int .i64 k ∧ Sp lo W wr) (fun i _ => len - (intOf i).toNat)
  case atStart => exact ⟨0, Nat.zero_le _, rfl, Sp.refl _ _⟩
  case round =>
    obtain ⟨k, hk, rfl, hspr⟩ := hrel
    have hsr := hspr.below.size
    have hA := box_cell (hspr.box HBX.out)
    by_cases hlt : k < len
    · by_cases hd : 0 < d
      · obtain ⟨g, rfl, hlg, hkg, hi⟩ := (HS.out.sp hspr).2 (by omega)
        obtain ⟨t1, fa, fl, fc, c7, hfl, hf⟩ := hi k hlt
        obtain ⟨z1, c1⟩ := Option.isSome_iff_exists.1 t1
        have hz := hkg.free
        have hset : Sp lo wr (wr.setCell ⟨g, k * 8 + 1, none⟩ (.int .i64 77)) := Sp.setT hkg hlg
        have HF := Lib.hid hf
        have hA2 := box_cell ((hspr.trans hset).box HBX.out)
        have c7' : (wr.setCell ⟨g, k * 8 + 1, none⟩ (.int .i64 77)).cell? ⟨g, k * 8 + 7, none⟩ = some (.slice fa fl fc) := (cell_set_ne _ _ _ _ _ _ (Or.inr (by omega))).trans c7
        clear hf hi t1
        have i1 : (0 : Int) ≤ (k : Int) := by omega
        have i2 : (k : Int) < (len : Int) := by omega
        have i5 : (0 : Int) < d := hd
        go_wp2
        have hspS := hspr.trans hset
        generalize wr.setCell ⟨g, k * 8 + 1, none⟩ (.int .i64 77) = W2 at hset hA2 c7' hspS ⊢
        have HF2 : Hid (0 < fl → ∃ h, fa = some ⟨h, 0, none⟩ ∧ lo ≤ h ∧ blk W2 87 h ∧ ∀ l, l < fl → (W2.cell? ⟨h, l * 2, none⟩).isSome ∧ ∃ ta tl tc, W2.cell? ⟨h, l * 2 + 1, none⟩ = some (.slice ta tl tc) ∧ Shape W2 lo n ta tl) := fun hp => by
          obtain ⟨h, e, hlo', hk', hl'⟩ := HF.out hp
          refine ⟨h, e, hlo', (hset.fields h hk').1, fun l hl => ?_⟩
          obtain ⟨t2, ta, tl, tc, d1, hsh⟩ := hl' l hl
          exact ⟨hset.there _ _ t2, ta, tl, tc, ((hset.fields h hk').2 _ (by omega)).trans d1, hsh.sp hset⟩
        clear HF hA hA2 c7 c7' c1 hz hset hkg
        have hs2 := hspS.below.size
        obtain ⟨wo, hwo⟩ : ∃ wo : World, wo = wr := ⟨_, rfl⟩
        subst hwo
        go_loopw [6] (fun i wr => ∃ j : Nat, j ≤ fl ∧ i = .int .i64 j ∧ Sp lo W2 wr) (fun i _ => fl - (intOf i).toNat)
        case atStart => exact ⟨0, Nat.zero_le _, rfl, Sp.refl _ _⟩
        case round =>
          obtain ⟨j, hj, rfl, hspj⟩ := hrel
          have hsj := hspj.below.size
          by_cases hjlt : j < fl
          · obtain ⟨h, rfl, hlh, hkh, hl⟩ := HF2.out (by omega)
            obtain ⟨t2, ta, tl, tc, d1, hsh⟩ := hl j hjlt
            have d1' : wr.cell? ⟨h, j * 2 + 1, none⟩ = some (.slice ta tl tc) := ((hspj.fields h hkh).2 _ (by omega)).trans d1
            have hkh' := (hspj.fields h hkh).1
            have t2' := hspj.there _ _ t2
            have CS := Lib.hid ((HW.out : SpoilOk n) wr lo (by omega) ta tl tc (d - 1) (by omega) (by omega) (hsh.sp hspj))
            clear d1 hl t2 hkh hsh
            have i3 : (0 : Int) ≤ (j : Int) := by omega
            have i4 : (j : Int) < (fl : Int) := by omega
            go_wp2_with fail
            refine CS.out.mono ?_
            rintro e w3 ⟨rfl, hsp3⟩
            have hkh3 := (hsp3.fields h hkh').1
            obtain ⟨z2, d0⟩ := Option.isSome_iff_exists.1 (hsp3.there _ _ t2')
            have hz3 := hkh3.free
            have hset3 : Hid (∀ u, Sp lo w3 (w3.setCell ⟨h, j * 2, none⟩ u)) := fun u => Sp.setF hkh3 hlh
            clear d1' t2' hkh'
            go_wp2
            go_roundw
            case rel => exact ⟨j + 1, by omega, by go_num, hspj.trans (hsp3.trans (hset3.out _))⟩
            case measure => simp [intOf]; omega
          · have hge : (fl : Int) ≤ (j : Int) := by omega
            go_wp2
            go_roundw
            case rel => exact ⟨k + 1, by omega, by go_num, hspS.trans hspj⟩
            case measure => simp [intOf]; omega
      · have hz : d ≤ 0 := by omega
        have i2 : (k : Int) < (len : Int) := by omega
        go_wp2
        go_end0
        exact ⟨rfl, hsp.trans hspr⟩
    · have hge : (len : Int) ≤ (k : Int) := by omega
      go_wp2
      go_end0
      exact ⟨rfl, hsp.trans hspr⟩
theorem spoilOk : ∀ n, SpoilOk n
  | 0 => spoil_zero
  | n + 1 => spoil_succ n (spoilOk n)
end Go.Proofs.Ytigdibglkejciaa.Rank
