/-
  Meet: the reference's.
-/
import Derived.Test.YtigdibglkejciaaS4
namespace Go.Proofs.Ytigdibglkejciaa.Sca
open Go.RowKit

set_option maxHeartbeats 4000000 in
theorem meetR_nor (xk xl xh : Int) (xs : ByteArray) (xa xm xo : Bool) (xf : Option Addr) (xn xc : Nat) (yk yl yh : Int) (ys : ByteArray) (ya ym yo : Bool) (yf : Option Addr) (yn yc : Nat) (r q : Bool) (hr : Hid (right xk xl xh xs xa xm xo xn = r)) (hq : Hid (right yk yl yh ys ya ym yo yn = q)) (hrq : Hid ((r && q) = false)) (w : World) :
    Calls Try.prog 36 #[.agg #[.int .i64 xk, .int .i64 xl, .int .i64 xh, .string xs, .bool xa, .bool xm, .bool xo, .slice xf xn xc], .agg #[.int .i64 yk, .int .i64 yl, .int .i64 yh, .string ys, .bool ya, .bool ym, .bool yo, .slice yf yn yc]] w fun e w' => e = .returned (.tuple #[.agg #[.int .i64 0, .int .i64 0, .int .i64 0, .string ⟨#[]⟩, .bool false, .bool false, .bool false, .slice none 0 0], .bool false]) ∧ Below w.heap.size w w' := by
  have hrq := hrq.out
  cases r
  · clear hrq
    go_enter Try.func36, Try.ntmps36
    go_wp2_with (first | (go_at_call 20; (with_reducible refine (rightRef_c _ _ _ _ _ _ _ _ _ _ _ hr _).mono ?_); rintro e w1 ⟨rfl, hb_w1⟩; obtain ⟨hc_w1, hf_w1⟩ := bcell hb_w1; have hs_w1 := hb_w1.size; (try simp only [World.size_alloc] at hs_w1); have hk_w1_0 : w.heap.size < w1.heap.size := (by omega); have hk_w1_1 : w.heap.size + 1 < w1.heap.size := (by omega); have hk_w1_2 : w.heap.size + 2 < w1.heap.size := (by omega)))
    refine bodyPost_ret (v := .tuple #[.agg #[.int .i64 0, .int .i64 0, .int .i64 0, .string ⟨#[]⟩, .bool false, .bool false, .bool false, .slice none 0 0], .bool false]) (by simp [results, Try.results36, go_sem, *]) rfl ?_; refine ⟨rfl, ?_⟩; (repeat (first | (with_reducible exact Below.refl _ _) | ((with_reducible refine Below.alloc ?_ ?_ _); rotate_left; (focus (first | omega | (simp; done) | (simp; omega)))) | ((with_reducible refine Below.setCell ?_ ?_ _); rotate_left; (focus (first | omega | (simp; done) | (simp; omega)))) | ((with_reducible refine Below.trans ?_ (Below.mono (by assumption) ?_)); rotate_left; (focus (first | omega | (simp; done) | (simp; omega)))) | (with_reducible assumption)))
  · have hq0 : q = false := by simpa using hrq
    subst hq0
    clear hrq
    go_enter Try.func36, Try.ntmps36
    go_wp2_with (first | (go_at_call 20; (with_reducible refine (rightRef_c _ _ _ _ _ _ _ _ _ _ _ hr _).mono ?_); clear hr; rintro e w1 ⟨rfl, hb_w1⟩; obtain ⟨hc_w1, hf_w1⟩ := bcell hb_w1; have hs_w1 := hb_w1.size; (try simp only [World.size_alloc] at hs_w1); have hk_w1_0 : w.heap.size < w1.heap.size := (by omega); have hk_w1_1 : w.heap.size + 1 < w1.heap.size := (by omega); have hk_w1_2 : w.heap.size + 2 < w1.heap.size := (by omega)) | (go_at_call 20; (with_reducible refine (rightRef_c _ _ _ _ _ _ _ _ _ _ _ hq _).mono ?_); rintro e w2 ⟨rfl, hb_w2⟩; obtain ⟨hc_w2, hf_w2⟩ := bcell hb_w2; have hs_w2 := hb_w2.size; (try simp only [World.size_alloc] at hs_w2); have hk_w2_0 : w.heap.size < w2.heap.size := (by omega); have hk_w2_1 : w.heap.size + 1 < w2.heap.size := (by omega); have hk_w2_2 : w.heap.size + 2 < w2.heap.size := (by omega)))
    refine bodyPost_ret (v := .tuple #[.agg #[.int .i64 0, .int .i64 0, .int .i64 0, .string ⟨#[]⟩, .bool false, .bool false, .bool false, .slice none 0 0], .bool false]) (by simp [results, Try.results36, go_sem, *]) rfl ?_; refine ⟨rfl, ?_⟩; (repeat (first | (with_reducible exact Below.refl _ _) | ((with_reducible refine Below.alloc ?_ ?_ _); rotate_left; (focus (first | omega | (simp; done) | (simp; omega)))) | ((with_reducible refine Below.setCell ?_ ?_ _); rotate_left; (focus (first | omega | (simp; done) | (simp; omega)))) | ((with_reducible refine Below.trans ?_ (Below.mono (by assumption) ?_)); rotate_left; (focus (first | omega | (simp; done) | (simp; omega)))) | (with_reducible assumption)))
set_option maxHeartbeats 4000000 in
theorem meetR_kind (xk xl xh : Int) (xs : ByteArray) (xa xm xo : Bool) (xf : Option Addr) (xn xc : Nat) (yk yl yh : Int) (ys : ByteArray) (ya ym yo : Bool) (yf : Option Addr) (yn yc : Nat) (hr : Hid (right xk xl xh xs xa xm xo xn = true)) (hq : Hid (right yk yl yh ys ya ym yo yn = true)) (hk : (xk != yk) = true) (w : World) :
    Calls Try.prog 36 #[.agg #[.int .i64 xk, .int .i64 xl, .int .i64 xh, .string xs, .bool xa, .bool xm, .bool xo, .slice xf xn xc], .agg #[.int .i64 yk, .int .i64 yl, .int .i64 yh, .string ys, .bool ya, .bool ym, .bool yo, .slice yf yn yc]] w fun e w' => e = .returned (.tuple #[.agg #[.int .i64 0, .int .i64 0, .int .i64 0, .string ⟨#[]⟩, .bool false, .bool false, .bool false, .slice none 0 0], .bool false]) ∧ Below w.heap.size w w' := by
  go_enter Try.func36, Try.ntmps36
  go_wp2_with (first | (go_at_call 20; (with_reducible refine (rightRef_c _ _ _ _ _ _ _ _ _ _ _ hr _).mono ?_); clear hr; rintro e w1 ⟨rfl, hb_w1⟩; obtain ⟨hc_w1, hf_w1⟩ := bcell hb_w1; have hs_w1 := hb_w1.size; (try simp only [World.size_alloc] at hs_w1); have hk_w1_0 : w.heap.size < w1.heap.size := (by omega); have hk_w1_1 : w.heap.size + 1 < w1.heap.size := (by omega); have hk_w1_2 : w.heap.size + 2 < w1.heap.size := (by omega)) | (go_at_call 20; (with_reducible refine (rightRef_c _ _ _ _ _ _ _ _ _ _ _ hq _).mono ?_); rintro e w2 ⟨rfl, hb_w2⟩; obtain ⟨hc_w2, hf_w2⟩ := bcell hb_w2; have hs_w2 := hb_w2.size; (try simp only [World.size_alloc] at hs_w2); have hk_w2_0 : w.heap.size < w2.heap.size := (by omega); have hk_w2_1 : w.heap.size + 1 < w2.heap.size := (by omega); have hk_w2_2 : w.heap.size + 2 < w2.heap.size := (by omega)))
  refine bodyPost_ret (v := .tuple #[.agg #[.int .i64 0, .int .i64 0, .int .i64 0, .string ⟨#[]⟩, .bool false, .bool false, .bool false, .slice none 0 0], .bool false]) (by simp [results, Try.results36, go_sem, *]) rfl ?_; refine ⟨rfl, ?_⟩; (repeat (first | (with_reducible exact Below.refl _ _) | ((with_reducible refine Below.alloc ?_ ?_ _); rotate_left; (focus (first | omega | (simp; done) | (simp; omega)))) | ((with_reducible refine Below.setCell ?_ ?_ _); rotate_left; (focus (first | omega | (simp; done) | (simp; omega)))) | ((with_reducible refine Below.trans ?_ (Below.mono (by assumption) ?_)); rotate_left; (focus (first | omega | (simp; done) | (simp; omega)))) | (with_reducible assumption)))
set_option maxHeartbeats 4000000 in
set_option maxRecDepth 100000 in
theorem meetR_plain_yes (xk xl xh : Int) (xs : ByteArray) (xa xm xo : Bool) (xf : Option Addr) (xn xc : Nat) (yk yl yh : Int) (ys : ByteArray) (ya ym yo : Bool) (yf : Option Addr) (yn yc : Nat) (L H : Int) (b : Bool) (hb : Hid (one xk L H xa = b)) (hL : Hid ((if xl < yl then yl else xl) = L)) (hH : Hid ((if yh < xh then yh else xh) = H)) (hr : Hid (right xk xl xh xs xa xm xo xn = true)) (hq : Hid (right yk yl yh ys ya ym yo yn = true)) (hk : (xk != yk) = false) (hLH : L ≤ H) (hk3 : (xk == 3) = false) (w : World) :
    Calls Try.prog 36 #[.agg #[.int .i64 xk, .int .i64 xl, .int .i64 xh, .string xs, .bool xa, .bool xm, .bool xo, .slice xf xn xc], .agg #[.int .i64 yk, .int .i64 yl, .int .i64 yh, .string ys, .bool ya, .bool ym, .bool yo, .slice yf yn yc]] w fun e w' => e = .returned (.tuple #[.agg #[.int .i64 xk, .int .i64 L, .int .i64 H, .string xs, .bool xa, .bool ((xm || ym) && !b), .bool xo, .slice xf xn xc], .bool true]) ∧ Below w.heap.size w w' := by
  go_enter Try.func36, Try.ntmps36
  go_upto_if 56 with (first | (go_at_call 20; (with_reducible refine (rightRef_c _ _ _ _ _ _ _ _ _ _ _ hr _).mono ?_); clear hr; rintro e w1 ⟨rfl, hb_w1⟩; obtain ⟨hc_w1, hf_w1⟩ := bcell hb_w1; have hs_w1 := hb_w1.size; (try simp only [World.size_alloc] at hs_w1); have hk_w1_0 : w.heap.size < w1.heap.size := (by omega); have hk_w1_1 : w.heap.size + 1 < w1.heap.size := (by omega); have hk_w1_2 : w.heap.size + 2 < w1.heap.size := (by omega)) | (go_at_call 20; (with_reducible refine (rightRef_c _ _ _ _ _ _ _ _ _ _ _ hq _).mono ?_); clear hq; rintro e w2 ⟨rfl, hb_w2⟩; obtain ⟨hc_w2, hf_w2⟩ := bcell hb_w2; have hs_w2 := hb_w2.size; (try simp only [World.size_alloc] at hs_w2); have hk_w2_0 : w.heap.size < w2.heap.size := (by omega); have hk_w2_1 : w.heap.size + 1 < w2.heap.size := (by omega); have hk_w2_2 : w.heap.size + 2 < w2.heap.size := (by omega)))
  go_cut [] (fun wx => Hid (wx = w2.alloc (.cells #[.int .i64 xk, .int .i64 L, .int .i64 xh, .string xs, .bool xa, .bool false, .bool xo, .slice xf xn xc] 33)))
  case first =>
    go_wp2_with fail
    all_goals go_meet
    all_goals (case rel => (have hL2 := hL.out; split at hL2 <;> first | (exfalso; omega) | (subst hL2; exact rfl)))
  case rest =>
    have hcut2 := hcut.out; subst hcut2; clear hcut
    go_upto_if 64 with fail
    go_cut [] (fun wx => Hid (wx = w2.alloc (.cells #[.int .i64 xk, .int .i64 L, .int .i64 H, .string xs, .bool xa, .bool false, .bool xo, .slice xf xn xc] 33)))
    case first =>
      go_wp2_with fail
      all_goals go_meet
      all_goals (case rel => (have hH2 := hH.out; split at hH2 <;> first | (exfalso; omega) | (subst hH2; exact rfl)))
    case rest =>
      have hcut2 := hcut.out; subst hcut2; clear hcut
      go_wp2_with (go_at_call 23; (with_reducible refine (single_b _ _ _ _ _ _ _ _ _ _ _ hb _).mono ?_); rintro e w3 ⟨rfl, hb_w3⟩; obtain ⟨hc_w3, hf_w3⟩ := bcell hb_w3; have hs_w3 := hb_w3.size; (try simp only [World.size_alloc] at hs_w3); have hk_w3_0 : w.heap.size < w3.heap.size := (by omega); have hk_w3_1 : w.heap.size + 1 < w3.heap.size := (by omega); have hk_w3_2 : w.heap.size + 2 < w3.heap.size := (by omega); have he5 : w3.cell? ⟨w2.heap.size, 5, none⟩ = some (.bool false) := (by rw [hc_w3 _ _ (by simp)]; simp); have he6 := fun v => World.cell?_setCell_same _ _ v he5; clear he5)
      all_goals refine bodyPost_ret (v := .tuple #[.agg #[.int .i64 xk, .int .i64 L, .int .i64 H, .string xs, .bool xa, .bool ((xm || ym) && !b), .bool xo, .slice xf xn xc], .bool true]) (by simp [results, Try.results36, go_sem, *]) rfl ?_; refine ⟨rfl, ?_⟩; (repeat (first | (with_reducible exact Below.refl _ _) | ((with_reducible refine Below.alloc ?_ ?_ _); rotate_left; (focus (first | omega | (simp; done) | (simp; omega)))) | ((with_reducible refine Below.setCell ?_ ?_ _); rotate_left; (focus (first | omega | (simp; done) | (simp; omega)))) | ((with_reducible refine Below.trans ?_ (Below.mono (by assumption) ?_)); rotate_left; (focus (first | omega | (simp; done) | (simp; omega)))) | (with_reducible assumption)))
set_option maxHeartbeats 4000000 in
set_option maxRecDepth 100000 in
theorem meetR_plain_out (xk xl xh : Int) (xs : ByteArray) (xa xm xo : Bool) (xf : Option Addr) (xn xc : Nat) (yk yl yh : Int) (ys : ByteArray) (ya ym yo : Bool) (yf : Option Addr) (yn yc : Nat) (L H : Int) (hL : Hid ((if xl < yl then yl else xl) = L)) (hH : Hid ((if yh < xh then yh else xh) = H)) (hr : Hid (right xk xl xh xs xa xm xo xn = true)) (hq : Hid (right yk yl yh ys ya ym yo yn = true)) (hk : (xk != yk) = false) (hLH : H < L) (hk3 : (xk == 3) = false) (w : World) :
    Calls Try.prog 36 #[.agg #[.int .i64 xk, .int .i64 xl, .int .i64 xh, .string xs, .bool xa, .bool xm, .bool xo, .slice xf xn xc], .agg #[.int .i64 yk, .int .i64 yl, .int .i64 yh, .string ys, .bool ya, .bool ym, .bool yo, .slice yf yn yc]] w fun e w' => e = .returned (.tuple #[.agg #[.int .i64 0, .int .i64 0, .int .i64 0, .string ⟨#[]⟩, .bool false, .bool false, .bool false, .slice none 0 0], .bool false]) ∧ Below w.heap.size w w' := by
  go_enter Try.func36, Try.ntmps36
  go_upto_if 56 with (first | (go_at_call 20; (with_reducible refine (rightRef_c _ _ _ _ _ _ _ _ _ _ _ hr _).mono ?_); clear hr; rintro e w1 ⟨rfl, hb_w1⟩; obtain ⟨hc_w1, hf_w1⟩ := bcell hb_w1; have hs_w1 := hb_w1.size; (try simp only [World.size_alloc] at hs_w1); have hk_w1_0 : w.heap.size < w1.heap.size := (by omega); have hk_w1_1 : w.heap.size + 1 < w1.heap.size := (by omega); have hk_w1_2 : w.heap.size + 2 < w1.heap.size := (by omega)) | (go_at_call 20; (with_reducible refine (rightRef_c _ _ _ _ _ _ _ _ _ _ _ hq _).mono ?_); clear hq; rintro e w2 ⟨rfl, hb_w2⟩; obtain ⟨hc_w2, hf_w2⟩ := bcell hb_w2; have hs_w2 := hb_w2.size; (try simp only [World.size_alloc] at hs_w2); have hk_w2_0 : w.heap.size < w2.heap.size := (by omega); have hk_w2_1 : w.heap.size + 1 < w2.heap.size := (by omega); have hk_w2_2 : w.heap.size + 2 < w2.heap.size := (by omega)))
  go_cut [] (fun wx => Hid (wx = w2.alloc (.cells #[.int .i64 xk, .int .i64 L, .int .i64 xh, .string xs, .bool xa, .bool false, .bool xo, .slice xf xn xc] 33)))
  case first =>
    go_wp2_with fail
    all_goals go_meet
    all_goals (case rel => (have hL2 := hL.out; split at hL2 <;> first | (exfalso; omega) | (subst hL2; exact rfl)))
  case rest =>
    have hcut2 := hcut.out; subst hcut2; clear hcut
    go_upto_if 64 with fail
    go_cut [] (fun wx => Hid (wx = w2.alloc (.cells #[.int .i64 xk, .int .i64 L, .int .i64 H, .string xs, .bool xa, .bool false, .bool xo, .slice xf xn xc] 33)))
    case first =>
      go_wp2_with fail
      all_goals go_meet
      all_goals (case rel => (have hH2 := hH.out; split at hH2 <;> first | (exfalso; omega) | (subst hH2; exact rfl)))
    case rest =>
      have hcut2 := hcut.out; subst hcut2; clear hcut
      go_wp2_with fail
      refine bodyPost_ret (v := .tuple #[.agg #[.int .i64 0, .int .i64 0, .int .i64 0, .string ⟨#[]⟩, .bool false, .bool false, .bool false, .slice none 0 0], .bool false]) (by simp [results, Try.results36, go_sem, *]) rfl ?_; refine ⟨rfl, ?_⟩; (repeat (first | (with_reducible exact Below.refl _ _) | ((with_reducible refine Below.alloc ?_ ?_ _); rotate_left; (focus (first | omega | (simp; done) | (simp; omega)))) | ((with_reducible refine Below.setCell ?_ ?_ _); rotate_left; (focus (first | omega | (simp; done) | (simp; omega)))) | ((with_reducible refine Below.trans ?_ (Below.mono (by assumption) ?_)); rotate_left; (focus (first | omega | (simp; done) | (simp; omega)))) | (with_reducible assumption)))
set_option maxHeartbeats 4000000 in
set_option maxRecDepth 100000 in
theorem meetR_any (xk xl xh : Int) (xs : ByteArray) (xm xo : Bool) (xf : Option Addr) (xn xc : Nat) (yk yl yh : Int) (ys : ByteArray) (ya ym yo : Bool) (yf : Option Addr) (yn yc : Nat) (L H : Int) (b : Bool) (hb : Hid (one xk L H ya = b)) (hL : Hid ((if xl < yl then yl else xl) = L)) (hH : Hid ((if yh < xh then yh else xh) = H)) (hr : Hid (right xk xl xh xs true xm xo xn = true)) (hq : Hid (right yk yl yh ys ya ym yo yn = true)) (hk : (xk != yk) = false) (hLH : L ≤ H) (hk3 : (xk == 3) = true) (w : World) :
    Calls Try.prog 36 #[.agg #[.int .i64 xk, .int .i64 xl, .int .i64 xh, .string xs, .bool true, .bool xm, .bool xo, .slice xf xn xc], .agg #[.int .i64 yk, .int .i64 yl, .int .i64 yh, .string ys, .bool ya, .bool ym, .bool yo, .slice yf yn yc]] w fun e w' => e = .returned (.tuple #[.agg #[.int .i64 xk, .int .i64 L, .int .i64 H, .string ys, .bool ya, .bool ((xm || ym) && !b), .bool xo, .slice xf xn xc], .bool true]) ∧ Below w.heap.size w w' := by
  go_enter Try.func36, Try.ntmps36
  go_upto_if 56 with (first | (go_at_call 20; (with_reducible refine (rightRef_c _ _ _ _ _ _ _ _ _ _ _ hr _).mono ?_); clear hr; rintro e w1 ⟨rfl, hb_w1⟩; obtain ⟨hc_w1, hf_w1⟩ := bcell hb_w1; have hs_w1 := hb_w1.size; (try simp only [World.size_alloc] at hs_w1); have hk_w1_0 : w.heap.size < w1.heap.size := (by omega); have hk_w1_1 : w.heap.size + 1 < w1.heap.size := (by omega); have hk_w1_2 : w.heap.size + 2 < w1.heap.size := (by omega)) | (go_at_call 20; (with_reducible refine (rightRef_c _ _ _ _ _ _ _ _ _ _ _ hq _).mono ?_); clear hq; rintro e w2 ⟨rfl, hb_w2⟩; obtain ⟨hc_w2, hf_w2⟩ := bcell hb_w2; have hs_w2 := hb_w2.size; (try simp only [World.size_alloc] at hs_w2); have hk_w2_0 : w.heap.size < w2.heap.size := (by omega); have hk_w2_1 : w.heap.size + 1 < w2.heap.size := (by omega); have hk_w2_2 : w.heap.size + 2 < w2.heap.size := (by omega)))
  go_cut [] (fun wx => Hid (wx = w2.alloc (.cells #[.int .i64 xk, .int .i64 L, .int .i64 xh, .string ys, .bool ya, .bool false, .bool xo, .slice xf xn xc] 33)))
  case first =>
    go_wp2_with fail
    all_goals go_meet
    all_goals (case rel => (have hL2 := hL.out; split at hL2 <;> first | (exfalso; omega) | (subst hL2; exact rfl)))
  case rest =>
    have hcut2 := hcut.out; subst hcut2; clear hcut
    go_upto_if 64 with fail
    go_cut [] (fun wx => Hid (wx = w2.alloc (.cells #[.int .i64 xk, .int .i64 L, .int .i64 H, .string ys, .bool ya, .bool false, .bool xo, .slice xf xn xc] 33)))
    case first =>
      go_wp2_with fail
      all_goals go_meet
      all_goals (case rel => (have hH2 := hH.out; split at hH2 <;> first | (exfalso; omega) | (subst hH2; exact rfl)))
    case rest =>
      have hcut2 := hcut.out; subst hcut2; clear hcut
      go_wp2_with (go_at_call 23; (with_reducible refine (single_b _ _ _ _ _ _ _ _ _ _ _ hb _).mono ?_); rintro e w3 ⟨rfl, hb_w3⟩; obtain ⟨hc_w3, hf_w3⟩ := bcell hb_w3; have hs_w3 := hb_w3.size; (try simp only [World.size_alloc] at hs_w3); have hk_w3_0 : w.heap.size < w3.heap.size := (by omega); have hk_w3_1 : w.heap.size + 1 < w3.heap.size := (by omega); have hk_w3_2 : w.heap.size + 2 < w3.heap.size := (by omega); have he5 : w3.cell? ⟨w2.heap.size, 5, none⟩ = some (.bool false) := (by rw [hc_w3 _ _ (by simp)]; simp); have he6 := fun v => World.cell?_setCell_same _ _ v he5; clear he5)
      all_goals refine bodyPost_ret (v := .tuple #[.agg #[.int .i64 xk, .int .i64 L, .int .i64 H, .string ys, .bool ya, .bool ((xm || ym) && !b), .bool xo, .slice xf xn xc], .bool true]) (by simp [results, Try.results36, go_sem, *]) rfl ?_; refine ⟨rfl, ?_⟩; (repeat (first | (with_reducible exact Below.refl _ _) | ((with_reducible refine Below.alloc ?_ ?_ _); rotate_left; (focus (first | omega | (simp; done) | (simp; omega)))) | ((with_reducible refine Below.setCell ?_ ?_ _); rotate_left; (focus (first | omega | (simp; done) | (simp; omega)))) | ((with_reducible refine Below.trans ?_ (Below.mono (by assumption) ?_)); rotate_left; (focus (first | omega | (simp; done) | (simp; omega)))) | (with_reducible assumption)))
set_option maxHeartbeats 4000000 in
set_option maxRecDepth 100000 in
theorem meetR_left (xk xl xh : Int) (xs : ByteArray) (xm xo : Bool) (xf : Option Addr) (xn xc : Nat) (yk yl yh : Int) (ys : ByteArray) (ym yo : Bool) (yf : Option Addr) (yn yc : Nat) (L H : Int) (b : Bool) (hb : Hid (one xk L H false = b)) (hL : Hid ((if xl < yl then yl else xl) = L)) (hH : Hid ((if yh < xh then yh else xh) = H)) (hr : Hid (right xk xl xh xs false xm xo xn = true)) (hq : Hid (right yk yl yh ys true ym yo yn = true)) (hk : (xk != yk) = false) (hLH : L ≤ H) (hk3 : (xk == 3) = true) (w : World) :
    Calls Try.prog 36 #[.agg #[.int .i64 xk, .int .i64 xl, .int .i64 xh, .string xs, .bool false, .bool xm, .bool xo, .slice xf xn xc], .agg #[.int .i64 yk, .int .i64 yl, .int .i64 yh, .string ys, .bool true, .bool ym, .bool yo, .slice yf yn yc]] w fun e w' => e = .returned (.tuple #[.agg #[.int .i64 xk, .int .i64 L, .int .i64 H, .string xs, .bool false, .bool ((xm || ym) && !b), .bool xo, .slice xf xn xc], .bool true]) ∧ Below w.heap.size w w' := by
  go_enter Try.func36, Try.ntmps36
  go_upto_if 56 with (first | (go_at_call 20; (with_reducible refine (rightRef_c _ _ _ _ _ _ _ _ _ _ _ hr _).mono ?_); clear hr; rintro e w1 ⟨rfl, hb_w1⟩; obtain ⟨hc_w1, hf_w1⟩ := bcell hb_w1; have hs_w1 := hb_w1.size; (try simp only [World.size_alloc] at hs_w1); have hk_w1_0 : w.heap.size < w1.heap.size := (by omega); have hk_w1_1 : w.heap.size + 1 < w1.heap.size := (by omega); have hk_w1_2 : w.heap.size + 2 < w1.heap.size := (by omega)) | (go_at_call 20; (with_reducible refine (rightRef_c _ _ _ _ _ _ _ _ _ _ _ hq _).mono ?_); clear hq; rintro e w2 ⟨rfl, hb_w2⟩; obtain ⟨hc_w2, hf_w2⟩ := bcell hb_w2; have hs_w2 := hb_w2.size; (try simp only [World.size_alloc] at hs_w2); have hk_w2_0 : w.heap.size < w2.heap.size := (by omega); have hk_w2_1 : w.heap.size + 1 < w2.heap.size := (by omega); have hk_w2_2 : w.heap.size + 2 < w2.heap.size := (by omega)))
  go_cut [] (fun wx => Hid (wx = w2.alloc (.cells #[.int .i64 xk, .int .i64 L, .int .i64 xh, .string xs, .bool false, .bool false, .bool xo, .slice xf xn xc] 33)))
  case first =>
    go_wp2_with fail
    all_goals go_meet
    all_goals (case rel => (have hL2 := hL.out; split at hL2 <;> first | (exfalso; omega) | (subst hL2; exact rfl)))
  case rest =>
    have hcut2 := hcut.out; subst hcut2; clear hcut
    go_upto_if 64 with fail
    go_cut [] (fun wx => Hid (wx = w2.alloc (.cells #[.int .i64 xk, .int .i64 L, .int .i64 H, .string xs, .bool false, .bool false, .bool xo, .slice xf xn xc] 33)))
    case first =>
      go_wp2_with fail
      all_goals go_meet
      all_goals (case rel => (have hH2 := hH.out; split at hH2 <;> first | (exfalso; omega) | (subst hH2; exact rfl)))
    case rest =>
      have hcut2 := hcut.out; subst hcut2; clear hcut
      go_wp2_with (go_at_call 23; (with_reducible refine (single_b _ _ _ _ _ _ _ _ _ _ _ hb _).mono ?_); rintro e w3 ⟨rfl, hb_w3⟩; obtain ⟨hc_w3, hf_w3⟩ := bcell hb_w3; have hs_w3 := hb_w3.size; (try simp only [World.size_alloc] at hs_w3); have hk_w3_0 : w.heap.size < w3.heap.size := (by omega); have hk_w3_1 : w.heap.size + 1 < w3.heap.size := (by omega); have hk_w3_2 : w.heap.size + 2 < w3.heap.size := (by omega); have he5 : w3.cell? ⟨w2.heap.size, 5, none⟩ = some (.bool false) := (by rw [hc_w3 _ _ (by simp)]; simp); have he6 := fun v => World.cell?_setCell_same _ _ v he5; clear he5)
      all_goals refine bodyPost_ret (v := .tuple #[.agg #[.int .i64 xk, .int .i64 L, .int .i64 H, .string xs, .bool false, .bool ((xm || ym) && !b), .bool xo, .slice xf xn xc], .bool true]) (by simp [results, Try.results36, go_sem, *]) rfl ?_; refine ⟨rfl, ?_⟩; (repeat (first | (with_reducible exact Below.refl _ _) | ((with_reducible refine Below.alloc ?_ ?_ _); rotate_left; (focus (first | omega | (simp; done) | (simp; omega)))) | ((with_reducible refine Below.setCell ?_ ?_ _); rotate_left; (focus (first | omega | (simp; done) | (simp; omega)))) | ((with_reducible refine Below.trans ?_ (Below.mono (by assumption) ?_)); rotate_left; (focus (first | omega | (simp; done) | (simp; omega)))) | (with_reducible assumption)))
set_option maxHeartbeats 4000000 in
set_option maxRecDepth 100000 in
theorem meetR_eq (xk xl xh : Int) (xs : ByteArray) (xm xo : Bool) (xf : Option Addr) (xn xc : Nat) (yk yl yh : Int) (ys : ByteArray) (ym yo : Bool) (yf : Option Addr) (yn yc : Nat) (L H : Int) (b : Bool) (hb : Hid (one xk L H false = b)) (hL : Hid ((if xl < yl then yl else xl) = L)) (hH : Hid ((if yh < xh then yh else xh) = H)) (hr : Hid (right xk xl xh xs false xm xo xn = true)) (hq : Hid (right yk yl yh ys false ym yo yn = true)) (hk : (xk != yk) = false) (hLH : L ≤ H) (hk3 : (xk == 3) = true) (ht : xs.toList = ys.toList) (w : World) :
    Calls Try.prog 36 #[.agg #[.int .i64 xk, .int .i64 xl, .int .i64 xh, .string xs, .bool false, .bool xm, .bool xo, .slice xf xn xc], .agg #[.int .i64 yk, .int .i64 yl, .int .i64 yh, .string ys, .bool false, .bool ym, .bool yo, .slice yf yn yc]] w fun e w' => e = .returned (.tuple #[.agg #[.int .i64 xk, .int .i64 L, .int .i64 H, .string xs, .bool false, .bool ((xm || ym) && !b), .bool xo, .slice xf xn xc], .bool true]) ∧ Below w.heap.size w w' := by
  go_enter Try.func36, Try.ntmps36
  go_upto_if 56 with (first | (go_at_call 20; (with_reducible refine (rightRef_c _ _ _ _ _ _ _ _ _ _ _ hr _).mono ?_); clear hr; rintro e w1 ⟨rfl, hb_w1⟩; obtain ⟨hc_w1, hf_w1⟩ := bcell hb_w1; have hs_w1 := hb_w1.size; (try simp only [World.size_alloc] at hs_w1); have hk_w1_0 : w.heap.size < w1.heap.size := (by omega); have hk_w1_1 : w.heap.size + 1 < w1.heap.size := (by omega); have hk_w1_2 : w.heap.size + 2 < w1.heap.size := (by omega)) | (go_at_call 20; (with_reducible refine (rightRef_c _ _ _ _ _ _ _ _ _ _ _ hq _).mono ?_); clear hq; rintro e w2 ⟨rfl, hb_w2⟩; obtain ⟨hc_w2, hf_w2⟩ := bcell hb_w2; have hs_w2 := hb_w2.size; (try simp only [World.size_alloc] at hs_w2); have hk_w2_0 : w.heap.size < w2.heap.size := (by omega); have hk_w2_1 : w.heap.size + 1 < w2.heap.size := (by omega); have hk_w2_2 : w.heap.size + 2 < w2.heap.size := (by omega)))
  go_cut [] (fun wx => Hid (wx = w2.alloc (.cells #[.int .i64 xk, .int .i64 L, .int .i64 xh, .string xs, .bool false, .bool false, .bool xo, .slice xf xn xc] 33)))
  case first =>
    go_wp2_with fail
    all_goals go_meet
    all_goals (case rel => (have hL2 := hL.out; split at hL2 <;> first | (exfalso; omega) | (subst hL2; exact rfl)))
  case rest =>
    have hcut2 := hcut.out; subst hcut2; clear hcut
    go_upto_if 64 with fail
    go_cut [] (fun wx => Hid (wx = w2.alloc (.cells #[.int .i64 xk, .int .i64 L, .int .i64 H, .string xs, .bool false, .bool false, .bool xo, .slice xf xn xc] 33)))
    case first =>
      go_wp2_with fail
      all_goals go_meet
      all_goals (case rel => (have hH2 := hH.out; split at hH2 <;> first | (exfalso; omega) | (subst hH2; exact rfl)))
    case rest =>
      have hcut2 := hcut.out; subst hcut2; clear hcut
      go_wp2_with (go_at_call 23; (with_reducible refine (single_b _ _ _ _ _ _ _ _ _ _ _ hb _).mono ?_); rintro e w3 ⟨rfl, hb_w3⟩; obtain ⟨hc_w3, hf_w3⟩ := bcell hb_w3; have hs_w3 := hb_w3.size; (try simp only [World.size_alloc] at hs_w3); have hk_w3_0 : w.heap.size < w3.heap.size := (by omega); have hk_w3_1 : w.heap.size + 1 < w3.heap.size := (by omega); have hk_w3_2 : w.heap.size + 2 < w3.heap.size := (by omega); have he5 : w3.cell? ⟨w2.heap.size, 5, none⟩ = some (.bool false) := (by rw [hc_w3 _ _ (by simp)]; simp); have he6 := fun v => World.cell?_setCell_same _ _ v he5; clear he5)
      all_goals refine bodyPost_ret (v := .tuple #[.agg #[.int .i64 xk, .int .i64 L, .int .i64 H, .string xs, .bool false, .bool ((xm || ym) && !b), .bool xo, .slice xf xn xc], .bool true]) (by simp [results, Try.results36, go_sem, *]) rfl ?_; refine ⟨rfl, ?_⟩; (repeat (first | (with_reducible exact Below.refl _ _) | ((with_reducible refine Below.alloc ?_ ?_ _); rotate_left; (focus (first | omega | (simp; done) | (simp; omega)))) | ((with_reducible refine Below.setCell ?_ ?_ _); rotate_left; (focus (first | omega | (simp; done) | (simp; omega)))) | ((with_reducible refine Below.trans ?_ (Below.mono (by assumption) ?_)); rotate_left; (focus (first | omega | (simp; done) | (simp; omega)))) | (with_reducible assumption)))
set_option maxHeartbeats 4000000 in
set_option maxRecDepth 100000 in
theorem meetR_clash (xk xl xh : Int) (xs : ByteArray) (xm xo : Bool) (xf : Option Addr) (xn xc : Nat) (yk yl yh : Int) (ys : ByteArray) (ym yo : Bool) (yf : Option Addr) (yn yc : Nat) (hr : Hid (right xk xl xh xs false xm xo xn = true)) (hq : Hid (right yk yl yh ys false ym yo yn = true)) (hk : (xk != yk) = false) (hk3 : (xk == 3) = true) (ht : (xs.toList == ys.toList) = false) (w : World) :
    Calls Try.prog 36 #[.agg #[.int .i64 xk, .int .i64 xl, .int .i64 xh, .string xs, .bool false, .bool xm, .bool xo, .slice xf xn xc], .agg #[.int .i64 yk, .int .i64 yl, .int .i64 yh, .string ys, .bool false, .bool ym, .bool yo, .slice yf yn yc]] w fun e w' => e = .returned (.tuple #[.agg #[.int .i64 0, .int .i64 0, .int .i64 0, .string ⟨#[]⟩, .bool false, .bool false, .bool false, .slice none 0 0], .bool false]) ∧ Below w.heap.size w w' := by
  go_enter Try.func36, Try.ntmps36
  go_wp2_with (first | (go_at_call 20; (with_reducible refine (rightRef_c _ _ _ _ _ _ _ _ _ _ _ hr _).mono ?_); clear hr; rintro e w1 ⟨rfl, hb_w1⟩; obtain ⟨hc_w1, hf_w1⟩ := bcell hb_w1; have hs_w1 := hb_w1.size; (try simp only [World.size_alloc] at hs_w1); have hk_w1_0 : w.heap.size < w1.heap.size := (by omega); have hk_w1_1 : w.heap.size + 1 < w1.heap.size := (by omega); have hk_w1_2 : w.heap.size + 2 < w1.heap.size := (by omega)) | (go_at_call 20; (with_reducible refine (rightRef_c _ _ _ _ _ _ _ _ _ _ _ hq _).mono ?_); clear hq; rintro e w2 ⟨rfl, hb_w2⟩; obtain ⟨hc_w2, hf_w2⟩ := bcell hb_w2; have hs_w2 := hb_w2.size; (try simp only [World.size_alloc] at hs_w2); have hk_w2_0 : w.heap.size < w2.heap.size := (by omega); have hk_w2_1 : w.heap.size + 1 < w2.heap.size := (by omega); have hk_w2_2 : w.heap.size + 2 < w2.heap.size := (by omega)))
  refine bodyPost_ret (v := .tuple #[.agg #[.int .i64 0, .int .i64 0, .int .i64 0, .string ⟨#[]⟩, .bool false, .bool false, .bool false, .slice none 0 0], .bool false]) (by simp [results, Try.results36, go_sem, *]) rfl ?_; refine ⟨rfl, ?_⟩; (repeat (first | (with_reducible exact Below.refl _ _) | ((with_reducible refine Below.alloc ?_ ?_ _); rotate_left; (focus (first | omega | (simp; done) | (simp; omega)))) | ((with_reducible refine Below.setCell ?_ ?_ _); rotate_left; (focus (first | omega | (simp; done) | (simp; omega)))) | ((with_reducible refine Below.trans ?_ (Below.mono (by assumption) ?_)); rotate_left; (focus (first | omega | (simp; done) | (simp; omega)))) | (with_reducible assumption)))
end Go.Proofs.Ytigdibglkejciaa.Sca
