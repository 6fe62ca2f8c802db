/-
  The nine words, out of what is laid.
-/
import Derived.Test.YtigdibglkejciaaDoorRows
import Derived.Test.YtigdibglkejciaaDoorE1
import Derived.ProofKit
import Derived.OpenShut
import Derived.LaidMore
import Derived.Lay
import Derived.SevenTiedAt
import Derived.Stop.Joined
namespace Go.Proofs.YtigdibglkejciaaDoor
open Go.ChangeShapes Go.WideShapes Go.ChangeAt Go.RowKit

theorem own : ownKnob Tryd.prog.godebug = none := by kernel_rfl
theorem laidOut : laidOutB Tryd.prog = true := by kernel_rfl
def laidL : List (String × DataW Unit) := [("treillage/name.words", Rows.laid_treillage_name_words)]
theorem gW : Tryd.prog.globalNamed "treillage/name.words" = some 0 := by kernel_rfl
theorem tW : ∃ t, (Tryd.prog.globals[0]?).map (·.type) = some t ∧ Tryd.prog.underlying t = some (.array 9 9) := ⟨_, rfl, by kernel_rfl⟩
theorem words_of_laid {W : World} (h : laidMetH Tryd.prog laidL W) : Ex.Words W := by
  rw [MakeChecks.laidMetH_plain _ _ _ (by kernel_rfl)] at h
  obtain ⟨ps, ⟨g, t, cs, fuel, p, q, hg, ht, hv, hd, _, _⟩, _, _⟩ := h
  obtain rfl := Option.some.inj (gW.symm.trans hg)
  obtain ⟨t', ht', hu⟩ := tW
  obtain rfl := Option.some.inj (ht'.symm.trans ht)
  obtain ⟨xs, m, _, ex, _, hl, hel⟩ := DataW.trod_array hu hd
  have c9 : Tryd.prog.cellsOf 9 = 1 := by kernel_rfl
  have e3 : xs.map (·.1) = [.lit (.string [97, 110, 121]), .lit (.string [98, 111, 111, 108]), .lit (.string [99, 111, 109, 112, 117, 116, 101, 100]), .lit (.string [102, 97, 108, 115, 101]), .lit (.string [105, 110, 116]), .lit (.string [110, 111, 110, 101]), .lit (.string [114, 101, 115, 111, 117, 114, 99, 101]), .lit (.string [115, 116, 114, 105, 110, 103]), .lit (.string [116, 114, 117, 101])] := (DataW.agg.inj (Prod.mk.inj ex).1).symm
  have key : ∀ r (hr : r < 9) (K : ByteArray), (xs.map (·.1))[r]? = some (.lit (.string K.data.toList)) → W.cell? ⟨0, r, none⟩ = some (.string K) := by
    intro r hr K hK
    have hE := hel r hr
    rw [c9, Nat.mul_one, List.getElem?_eq_getElem (by omega)] at hE
    obtain ⟨z, e1, e2, _⟩ := DataW.trod_string Tryd.underlying9 hE
    rw [List.getElem?_map, List.getElem?_eq_getElem (by omega : r < xs.length), e2] at hK
    have hz : z = K := by
      simp only [Option.map_some, Option.some.injEq, DataW.lit.injEq, Lit.string.injEq] at hK
      obtain ⟨⟨z⟩⟩ := z
      obtain ⟨⟨k⟩⟩ := K
      simp only at hK
      rw [hK]
    rw [World.var?_cell hg hv r, ← hz]
    have : cs.toList[r]? = some (.string z) := by
      have h0 : ((cs.toList.drop r).take 1)[0]? = some (.string z) := by rw [e1]; rfl
      simpa using h0
    simpa using this
  exact ⟨key 0 (by decide) Ex.K1 (by rw [e3]; rfl), key 1 (by decide) Ex.K2 (by rw [e3]; rfl), key 2 (by decide) Ex.K3 (by rw [e3]; rfl), key 3 (by decide) Ex.K4 (by rw [e3]; rfl), key 4 (by decide) Ex.K5 (by rw [e3]; rfl), key 5 (by decide) Ex.K6 (by rw [e3]; rfl), key 6 (by decide) Ex.K7 (by rw [e3]; rfl), key 7 (by decide) Ex.K8 (by rw [e3]; rfl), key 8 (by decide) Ex.K9 (by rw [e3]; rfl)⟩
end Go.Proofs.YtigdibglkejciaaDoor
