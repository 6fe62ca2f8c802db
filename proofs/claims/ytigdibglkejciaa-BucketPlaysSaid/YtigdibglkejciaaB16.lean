/-
  BucketPlays: the law's walk.
-/
import Derived.Test.YtigdibglkejciaaB15
namespace Go.Proofs.Ytigdibglkejciaa.Buck
open Go.RowKit Go
set_option linter.unusedSimpArgs false

theorem find_k {w : World} {base bx mb : Nat} {slots many : Int} {N : Nat} {bk : Int → List Int} {V : Int → Value} {s : ByteArray} {k : Int} (hk : slot s slots = k) (hs : s.size ≤ maxLen) (hl : (bk k).length ≤ 1000)
    (h : Idx w base bx mb slots many N bk V) (hk0 : 0 ≤ k) (hk1 : k ≤ 1024) : Calls Try.prog 56 #[.pointer (some ⟨bx, 0, none⟩), .string s] w (FPost (bk k) w) := by
  subst hk; exact find_any w base bx mb slots many N bk V s hs hl h hk0 hk1
theorem add_k {w : World} {base bx mb : Nat} {slots many : Int} {N : Nat} {bk : Int → List Int} {V : Int → Value} {s : ByteArray} {id k : Int} (hk : slot s slots = k) (hs : s.size ≤ maxLen) (hN : N < 1000000) (hl : (bk k).length ≤ 500) (hm0 : 0 ≤ many) (hm1 : many ≤ 1000)
    (h : Idx w base bx mb slots many N bk V) (hbase : base ≤ w.heap.size) (hk0 : 0 ≤ k) (hk1 : k ≤ 1024) :
    Calls Try.prog 52 #[.pointer (some ⟨bx, 0, none⟩), .string s, .int .i64 id] w (AddPost base bx mb slots many N bk V k id w) := by
  subst hk; exact add_any w base bx mb slots many N bk V s id hs hN hl hm0 hm1 h hbase hk0 hk1
theorem told_pj {w W : World} {M : Nat} {l : List (Int × Int)} {N : Nat} {lv : Value} (upto : Int) (h : PJ w M l l N lv W) (hM : M ≤ 1024) (hl : l.length ≤ 1000) :
    Calls Try.prog 59 #[.pointer (some ⟨w.heap.size + 1, 0, none⟩), lv, .int .i64 upto] W fun e W' => e = .returned (.bool true) ∧ Below W.heap.size W W' := by
  obtain ⟨V, hi, _⟩ := h.idx
  exact told_any W _ lv upto l M (bucket l) (Mem (W.heap.size + 4) (w.heap.size + 1) w.heap.size M (fun k => bucket l (k : Int))) (RItems.of_row h.row hl) hM (fun _ => rfl) (tot_all M l h.slots)
    (fun n hn => each_ok n hn _ _ _ M hM (fun k => bucket l (k : Int)) (fun k => Nat.le_trans (bucket_len l k) hl)) (fun k L A hT => TI.mem hM hi hT)
theorem told_nil (upto : Int) (W : World) : Calls Try.prog 59 #[.pointer none, .slice none 0 0, .int .i64 upto] W fun e W' => e = .returned (.bool true) ∧ Below W.heap.size W W' :=
  told_any W none (.slice none 0 0) upto [] 0 (bucket []) (fun _ A => A.cell? ⟨W.heap.size + 4, 0, none⟩ = some (.pointer none)) ⟨none, 0, rfl, by simp, fun h => absurd h (by simp)⟩ (by omega) (fun _ => rfl) rfl
    (fun n _ => each_none n _ _ _ _ (fun A h => h)) (fun k L A hT => cells_of hT.x4 0)
theorem SX.turn {b : Nat} {c : Array Value} {S : Nat → Prop} {W W' : World} (h : SX b c W) (ht : Turn S W W') (hn : ¬ S b) : SX b c W' :=
  ⟨fun o => (World.cell?_of_block (a := ⟨b, o, none⟩) (ht.block b h.2 hn)).trans (h.1 o), Nat.lt_of_lt_of_le h.2 ht.size⟩
theorem find_nil2 (s : ByteArray) (w : World) : Calls Try.prog 56 #[.pointer none, .string s] w fun e w' => e = .returned (.slice none 0 0) ∧ w = w' := find_nil s w
theorem box_out {W : World} {base bx mb b : Nat} {slots many : Int} {N : Nat} {bk : Int → List Int} {V : Int → Value} {c : Array Value} (hi : Idx W base bx mb slots many N bk V) (h : W.heap[b]? = some (.cells c 61 (0, 0))) (h1 : b ≠ bx) (h2 : b ≠ mb) : ¬ foot bx mb bk V b := by
  rintro (e | e | ⟨k, hk, e⟩)
  · exact h1 e
  · exact h2 e
  · obtain ⟨cur, h3⟩ := row_cells (hi.rows k hk) e
    rw [h] at h3; cases h3
theorem box_turn {W W' : World} {base bx mb b : Nat} {slots many : Int} {N : Nat} {bk : Int → List Int} {V : Int → Value} {c : Array Value} (ht : Turn (foot bx mb bk V) W W') (hi : Idx W base bx mb slots many N bk V) (h : W.heap[b]? = some (.cells c 61 (0, 0))) (h1 : b ≠ bx) (h2 : b ≠ mb) : W'.heap[b]? = some (.cells c 61 (0, 0)) :=
  (ht.block b (lt_of_block h) (box_out hi h h1 h2)).trans h
theorem box_grown {W W' : World} {base size n b : Nat} {lv : Value} {xs : List Value} {c : Array Value} (hg : W.grownBy W' lv.ownBlock) (hr : W.ownsRow base 64 size lv n xs) (h : W.heap[b]? = some (.cells c 61 (0, 0))) : W'.heap[b]? = some (.cells c 61 (0, 0)) :=
  (hg.block b (lt_of_block h) (fun e => by obtain ⟨cur, h3⟩ := row_cells hr e.symm; rw [h] at h3; cases h3)).trans h
theorem heap_old' {W W' : World} {b : Nat} {o : Obj} (hb : Below W.heap.size W W') (h : W.heap[b]? = some o) : W'.heap[b]? = some o := (hb.block b (Array.getElem?_eq_some_iff.1 h).1).trans h
theorem row_form {w : World} {base : Nat} {T : TypeId} {size n : Nat} {V : Value} {xs : List Value} (h : w.ownsRow base T size V n xs) : ∃ a c, V = .slice a n c := by
  obtain ⟨_, ⟨rfl, rfl⟩ | ⟨g, cap, cur, rfl, _⟩⟩ := h
  · exact ⟨none, 0, rfl⟩
  · exact ⟨_, _, rfl⟩
theorem slots_any (sl : Int) : ∃ M : Nat, wrap64 (1 + wrap64 ((IntKind.u64.wrap sl).tmod 1024)) = (M : Int) ∧ 1 ≤ M ∧ M ≤ 1024 := by
  have h0 : 0 ≤ IntKind.u64.wrap sl := by rw [IntKind.wrap_u64]; omega
  have h3 := Int.tmod_nonneg 1024 h0
  have h4 := Int.tmod_lt_of_pos (IntKind.u64.wrap sl) (show (0 : Int) < 1024 by omega)
  generalize (IntKind.u64.wrap sl).tmod 1024 = r at *
  refine ⟨(1 + r).toNat, ?_, by omega, by omega⟩
  unfold wrap64
  omega
set_option maxRecDepth 100000 in
set_option maxHeartbeats 16000000 in
theorem plays_walk (w : World) (sl upto : Int) (a : Option Addr) (n c : Nat) (h : ActsIn w n a) :
    Calls Try.prog 11 #[.int .i64 sl, .slice a n c, .int .i64 upto] w fun e w' => e = .returned (.bool true) ∧ Below w.heap.size w w' := by
  obtain ⟨M, hX, hM1, hM2⟩ := slots_any sl
  by_cases h60 : n ≤ 60
  · have HA := Lib.hid h
    have HX := Lib.hid hX
    obtain ⟨i0, hi0, z0, z1, z2⟩ := info_parts info64
    have HI := Lib.hid (show Try.prog.info? 64 = some i0 ∧ i0.zero = _ ∧ i0.size = 2 ∧ i0.bytes = 16 from ⟨hi0, z0, z1, z2⟩)
    clear h hX hi0 z0 z1 z2
    go_enter Try.func11, Try.ntmps11
    go_wp2_with (rw [HX.out]; go_at_call 13; (with_reducible refine (new_in (M : Int) w (by omega) (by omega)).mono ?_); rintro e w1 ⟨rfl, rfl⟩)
    have hst := Lib.hid (PJ.start (w := w) (M := M))
    generalize ((w.alloc (.map #[] 0)).alloc (.cells #[.int .i64 (M : Int), .map (some w.heap.size), .int .i64 0] 77)) = W0 at hst ⊢
    go_loopw [9, 10] (fun lv i wr => ∃ (j : Nat) (l : List (Int × Int)) (N : Nat) (la : Option Addr) (lc : Nat), j ≤ n ∧ i = .int .i64 j ∧ lv = .slice la l.length lc ∧ l.length ≤ j ∧ N ≤ j * 1100 ∧ Hid (PJ w M l l N (.slice la l.length lc) wr)) (fun _ i _ => n - (intOf i).toNat)
    case atStart => exact ⟨0, [], 0, none, 0, Nat.zero_le _, rfl, rfl, Nat.le_refl _, Nat.le_refl _, hst⟩
    case round =>
      obtain ⟨j, l, N, la, lc, hj, rfl, rfl, hlj, hNj, hPJ⟩ := hrel
      clear hst
      by_cases hlt : j < n
      · obtain ⟨g, off, kd, s, id, rfl, hg, a0, a1, a2⟩ := HA.out j hlt
        have hbel := hPJ.out.bel
        have hsw := hbel.size
        have c0 : wr.cell? ⟨g, off + j * 3, none⟩ = _ := (hbel.cell (p := ⟨g, _, none⟩) hg).trans a0
        have c1 : wr.cell? ⟨g, off + j * 3 + 1, none⟩ = _ := (hbel.cell (p := ⟨g, _, none⟩) hg).trans a1
        have c2 : wr.cell? ⟨g, off + j * 3 + 2, none⟩ = _ := (hbel.cell (p := ⟨g, _, none⟩) hg).trans a2
        have i1 : (0 : Int) ≤ (j : Int) := by omega
        have i2 : (j : Int) < (n : Int) := by omega
        by_cases hs : s.size ≤ 100
        · have hss : s.size ≤ maxLen := by unfold maxLen; omega
          have hs' : (s.size : Int) ≤ 100 := by omega
          obtain ⟨k, hk⟩ : ∃ k, slot s (M : Int) = k := ⟨_, rfl⟩
          have hkb := slot_bounds s M hM1 hM2
          rw [hk] at hkb
          have h17 : ∀ W, Calls Try.prog 17 #[.string s, .int .i64 (M : Int)] W fun e w' => e = .returned (.int .i64 k) ∧ W = w' := fun W => hk ▸ slotRef_any s (M : Int) W hss
          have H17 := Lib.hid h17
          have HK := Lib.hid hk
          have hsz2 := hPJ.out.size
          have hbx := Lib.hid (new_cells wr #[.int .u8 kd, .string s, .int .i64 id] 61)
          have hPJ1 := Lib.hid (hPJ.out.below (bel1 wr (.cells #[.int .u8 kd, .string s, .int .i64 id] 61)))
          have hW1s : (wr.alloc (.cells #[.int .u8 kd, .string s, .int .i64 id] 61)).heap.size = wr.heap.size + 1 := by simp
          have hl1 : l.length ≤ 1000 := by omega
          have hbk1 := bucket_len l k
          clear a0 a1 a2 hbel h17 hk
          by_cases hk0 : kd.tmod 3 = 0
          · -- Add
            have e0 : (kd.tmod 3 == 0) = true := by simpa using hk0
            obtain ⟨V, hi, hf⟩ := hPJ1.out.idx
            have HADD := Lib.hid (add_k (id := id) HK.out hss (by omega) (by omega) (by omega) (by omega) hi (by rw [hW1s]; omega) hkb.1 (by omega))
            have HI1 := Lib.hid hi
            have HF1 := Lib.hid hf
            clear hi hf hk0
            go_wp2_with (first
              | (go_at_call 17; (with_reducible refine (H17.out _).mono ?_); rintro e w1 ⟨rfl, rfl⟩)
              | (go_at_call 52; (with_reducible refine HADD.out.mono ?_); rintro e W2 ha; obtain ⟨rfl, hPJ2⟩ := hPJ1.out.addIdx hkb HI1.out HF1.out ha; replace hPJ2 := Lib.hid hPJ2; have hbx2 := Lib.hid (box_turn ha.2.1 HI1.out hbx.out (by omega) (by omega)); have hbc2 := cells_of hbx2.out; clear ha)
              | (at_builtin; refine wpList_append_lies _ (by rfl) _ _ 59 (by rfl) (w.heap.size + 2) 64 i0 _ 2 16 Try.underlying59 HI.out.1 HI.out.2.1 HI.out.2.2.1 HI.out.2.2.2 (by rfl) (by decide) (.slice la l.length lc) l.length (icells l) (by rfl) (own_below hPJ2.out.row (bel1 _ _)) ⟨W2.heap.size, 0, none⟩ 1 1 [.int .i64 k, .int .i64 id] (by rfl) (by rfl) (World.news_of_block (new_cells W2 _ _)) (by intro u hu; simp at hu; rcases hu with rfl | rfl <;> rfl) (by omega) (by unfold maxLen; omega) (by omega) (by have := hPJ2.out.size; simp; omega) (W2.heap.size + 1) (by simp) ?_; intro g' cap' W3 hown hgrow hat hlt1; have hPJ3 := Lib.hid (hPJ2.out.append (x := (k, id)) (bel1 W2 _) hgrow (hat.imp_right (fun e => by rw [e]; simp)) hown); have hbx3 := Lib.hid (box_grown hgrow (own_below hPJ2.out.row (bel1 W2 _)) (heap_old' (bel1 W2 _) hbx2.out)); have hbc3 := cells_of hbx3.out; have hln : (l ++ [(k, id)]).length = l.length + 1 := (by simp); have hl3 : (l ++ [(k, id)]).length ≤ 1000 := (by omega); have hbk3 := bucket_len (l ++ [(k, id)]) k; clear hown hgrow hat)
              | (go_at_call 56; obtain ⟨V', hi', _⟩ := hPJ3.out.idx; (with_reducible refine (find_k HK.out hss (by omega) hi' hkb.1 (by omega)).mono ?_); clear hi'; rintro e W4 ⟨v1, rfl, hv1, hb4⟩; replace hv1 := Lib.hid hv1; replace hb4 := Lib.hid hb4)
              | (go_at_call 57; (with_reducible refine (findR_any _ (l ++ [(k, id)]) k _ (RItems.of_row (own_below hPJ3.out.row hb4.out) hl3)).mono ?_); rintro e W5 ⟨v2, rfl, hv2, hb5⟩; replace hv2 := Lib.hid hv2; replace hb5 := Lib.hid hb5)
              | (go_at_call 55; (with_reducible refine (ints_same _ _ _ _ _ rfl (hv1.out.below hb5.out) (RInts.of_row hv2.out (by omega))).mono ?_); rintro e W6 ⟨rfl, hb6⟩; have hPJ6 := Lib.hid (((hPJ3.out.below hb4.out).below hb5.out).below hb6))
              | (go_at_call 58; obtain ⟨V', hi', _⟩ := hPJ6.out.idx; (with_reducible refine (len_any _ _ _ _ _ _ _ _ V' hi').mono ?_); clear hi'; rintro e w1 ⟨rfl, rfl⟩))
            go_roundw
            case rel => exact ⟨j + 1, l ++ [(k, id)], N + 1, some ⟨g', 0, none⟩, cap', by omega, by go_num, by rw [hln], by omega, by omega, by rw [hln]; exact hPJ6⟩
            case measure => simp [intOf]; omega
          · by_cases hk1 : kd.tmod 3 = 1
            · -- Drop
              have e0 : (kd.tmod 3 == 0) = false := by simpa using hk0
              have e1 : (kd.tmod 3 == 1) = true := by simpa using hk1
              have hkl := keepI_len l id
              have HDR := Lib.hid (dropR_any (.slice la l.length lc) l id _ (RItems.of_row hPJ1.out.row hl1))
              clear hk0 hk1
              go_wp2_with (first
              | (go_at_call 17; (with_reducible refine (H17.out _).mono ?_); rintro e w1 ⟨rfl, rfl⟩)
              | (go_at_call 53; (with_reducible refine HDR.out.mono ?_); rintro e W2 ⟨v0, rfl, hown, hb2⟩; obtain ⟨la', lc', rfl⟩ := row_form hown; have hPJa := hPJ1.out.newRow hb2 hown; have hbx2 := Lib.hid (heap_old' hb2 hbx.out); replace hPJa := Lib.hid hPJa; have hbc2 := cells_of hbx2.out; clear hown hb2)
              | (go_at_call 54; obtain ⟨V, hi, hf⟩ := hPJa.out.idx; (with_reducible refine (drop_any W2 _ _ _ M _ _ _ V id hPJa.out.size hM2 (by omega) (fun j => by have := bucket_len l j; omega) (bucket_out hPJa.out.slots) (by omega) hi).mono ?_); rintro e W3 ha; obtain ⟨rfl, hPJ3⟩ := hPJa.out.dropIdx hi hf ha; replace hPJ3 := Lib.hid hPJ3; have hbx3 := Lib.hid (box_turn ha.2.1 hi hbx2.out (by omega) (by omega)); have hbc3 := cells_of hbx3.out; have hl3 : (keepI l id).length ≤ 1000 := (by omega); have hbk3 := bucket_len (keepI l id) k; clear ha hi hf)
              | (go_at_call 56; obtain ⟨V', hi', _⟩ := hPJ3.out.idx; (with_reducible refine (find_k HK.out hss (by omega) hi' hkb.1 (by omega)).mono ?_); clear hi'; rintro e W4 ⟨v1, rfl, hv1, hb4⟩; replace hv1 := Lib.hid hv1; replace hb4 := Lib.hid hb4)
              | (go_at_call 57; (with_reducible refine (findR_any _ (keepI l id) k _ (RItems.of_row (own_below hPJ3.out.row hb4.out) hl3)).mono ?_); rintro e W5 ⟨v2, rfl, hv2, hb5⟩; replace hv2 := Lib.hid hv2; replace hb5 := Lib.hid hb5)
              | (go_at_call 55; (with_reducible refine (ints_same _ _ _ _ _ rfl (hv1.out.below hb5.out) (RInts.of_row hv2.out (by omega))).mono ?_); rintro e W6 ⟨rfl, hb6⟩; have hPJ6 := Lib.hid (((hPJ3.out.below hb4.out).below hb5.out).below hb6))
              | (go_at_call 58; obtain ⟨V', hi', _⟩ := hPJ6.out.idx; (with_reducible refine (len_any _ _ _ _ _ _ _ _ V' hi').mono ?_); clear hi'; rintro e w1 ⟨rfl, rfl⟩))
              go_roundw
              case rel => exact ⟨j + 1, keepI l id, N + M, la', lc', by omega, by go_num, rfl, by omega, by omega, hPJ6⟩
              case measure => simp [intOf]; omega
            · have e0 : (kd.tmod 3 == 0) = false := by simpa using hk0
              have e1 : (kd.tmod 3 == 1) = false := by simpa using hk1
              have hPJ3 := hPJ1
              have hbk3 := hbk1
              have hl3 := hl1
              clear hk0 hk1
              go_wp2_with (first
              | (go_at_call 17; (with_reducible refine (H17.out _).mono ?_); rintro e w1 ⟨rfl, rfl⟩)
              | (go_at_call 56; obtain ⟨V', hi', _⟩ := hPJ3.out.idx; (with_reducible refine (find_k HK.out hss (by omega) hi' hkb.1 (by omega)).mono ?_); clear hi'; rintro e W4 ⟨v1, rfl, hv1, hb4⟩; replace hv1 := Lib.hid hv1; replace hb4 := Lib.hid hb4)
              | (go_at_call 57; (with_reducible refine (findR_any _ l k _ (RItems.of_row (own_below hPJ3.out.row hb4.out) hl3)).mono ?_); rintro e W5 ⟨v2, rfl, hv2, hb5⟩; replace hv2 := Lib.hid hv2; replace hb5 := Lib.hid hb5)
              | (go_at_call 55; (with_reducible refine (ints_same _ _ _ _ _ rfl (hv1.out.below hb5.out) (RInts.of_row hv2.out (by omega))).mono ?_); rintro e W6 ⟨rfl, hb6⟩; have hPJ6 := Lib.hid (((hPJ3.out.below hb4.out).below hb5.out).below hb6))
              | (go_at_call 58; obtain ⟨V', hi', _⟩ := hPJ6.out.idx; (with_reducible refine (len_any _ _ _ _ _ _ _ _ V' hi').mono ?_); clear hi'; rintro e w1 ⟨rfl, rfl⟩))
              go_roundw
              case rel => exact ⟨j + 1, l, N, la, lc, by omega, by go_num, rfl, by omega, by omega, hPJ6⟩
              case measure => simp [intOf]; omega
        · have hs' : (100 : Int) < (s.size : Int) := by omega
          have hPJ1 := Lib.hid (hPJ.out.below (bel1 wr (.cells #[.int .u8 kd, .string s, .int .i64 id] 61)))
          clear a0 a1 a2 hbel
          go_wp2
          go_roundw
          case rel => exact ⟨j + 1, l, N, la, lc, by omega, by go_num, rfl, by omega, by omega, hPJ1⟩
          case measure => simp [intOf]; omega
      · have hge : (n : Int) ≤ (j : Int) := by omega
        have hl1 : l.length ≤ 1000 := by omega
        go_wp2_with (first
          | (go_at_call 52; (with_reducible refine (add_nil _ _ _).mono ?_); rintro e w1 ⟨rfl, rfl⟩)
          | (go_at_call 12; (with_reducible refine (awake_any _).mono ?_); rintro e w1 ⟨rfl, rfl⟩)
          | (go_at_call 59; (with_reducible refine (told_pj upto hPJ.out hM2 hl1).mono ?_); rintro e W1 ⟨rfl, hb1⟩; replace hb1 := Lib.hid hb1)
          | (go_at_call 59; (with_reducible refine (told_pj (M : Int) (hPJ.out.below hb1.out) hM2 hl1).mono ?_); rintro e W2 ⟨rfl, hb2⟩; replace hb2 := Lib.hid hb2)
          | (go_at_call 58; (with_reducible refine (len_nil _).mono ?_); rintro e w1 ⟨rfl, rfl⟩)
          | (go_at_call 54; (with_reducible refine (drop_nil _ _).mono ?_); rintro e W3 ⟨rfl, hb3⟩; replace hb3 := Lib.hid hb3)
          | (go_at_call 56; (with_reducible refine (find_nil2 _ _).mono ?_); rintro e w1 ⟨rfl, rfl⟩)
          | (go_at_call 59; (with_reducible refine (told_nil _ _).mono ?_); rintro e W4 ⟨rfl, hb4⟩; replace hb4 := Lib.hid hb4))
        go_ret
        have hsz := hPJ.out.bel.size
        exact ⟨rfl, hPJ.out.bel.trans ((((hb1.out.trans (hb2.out.mono (hb1.out.size))).trans (hb3.out.mono (Nat.le_trans hb1.out.size hb2.out.size))).trans (hb4.out.mono (Nat.le_trans (Nat.le_trans hb1.out.size hb2.out.size) hb3.out.size))).mono hsz)⟩
  · have h60' : (60 : Int) < (n : Int) := by omega
    clear h hX
    go_enter Try.func11, Try.ntmps11
    go_wp2_with (go_at_call 12; (with_reducible refine (awake_any _).mono ?_); rintro e w1 ⟨rfl, rfl⟩)
    go_ret
    exact ⟨rfl, Below.refl _ _⟩
end Go.Proofs.Ytigdibglkejciaa.Buck
