/-
  NARROWER THAN 'FOR EVERY INPUT', by the rows' own cells (each row's printed sentence says how): ScalarRights: loops · ScalarMakes: loops · RankTotal: loops · ScalarMeets: loops · ScalarOrder: loops · RankOrders: loops · RankCopies: loops.
  DERIVED. THE GIVEN ROWS OF THIS SEAT. 9 by the template 'for every input the law returns true; each argument reads behind the call as it read before'; 0 by the template 'total and deterministic' (their statements: YtigdibglkejciaaTotals.lean).
  GIVEN WITH THE SEED: the statements are not yours to turn. If you find one false, say at which input.
  Laid BY PROGRAM, IN A SANDBOX (cutbox-rows.mjs): the forced cells as the released guide's own fill.sh prints them over the translation 8fc27200c11a2f0b… (all of the seat's roots in one cut). By AI agents, Wed Nov 11 2026. No macro, syntax, notation, axiom, sorry.
-/
import Derived.Test.YtigdibglkejciaaChecked
import GoSem.Claim
import GoSem.ClaimJoined
import GoSem.ClaimMapViews
import Derived.JoinedTies
import Derived.KernelRfl
namespace Go.Proofs.Ytigdibglkejciaa
/- THE CELL 'sum', in the pinned program and in every row, IS THE sha256 OF THE DUMP (.gsa) THAT YtigdibglkejciaaProg.lean LOADS. Nothing in Lean hashes anything: it is a label: what it is worth is what the hold of that sum in a sandbox is worth. -/
noncomputable def Try.pinned : Pinned := { name := "ytigdibglkejciaa", sum := "8fc27200c11a2f0b5bae85b9676d67b1a969cc64a671f77d75360a317933a554", checked := Try.checked }
namespace Rows
def none {H : Type} : Left H := { results := [], args := [] }

/-- 'treillagelaw05.BucketSlots': WHATEVER THE INPUT: true; the input reads as it did. -/
def bucketSlotsSpec : ChangeSpec := { name := "bucketSlots", fn := fun _ => fun
  | [d1, d2] => { results := [.lit (.bool true)], args := [d1, d2] }
  | _ => none }
def bucketSlotsRow : OpenClaim := { program := "ytigdibglkejciaa", sum := "8fc27200c11a2f0b5bae85b9676d67b1a969cc64a671f77d75360a317933a554", func := "treillage/treillagelaw05.BucketSlots", spec := "bucketSlots", apart := false }
def BucketSlotsSaid : Prop := bucketSlotsRow.holds Try.pinned (OpenSpec.ofChange bucketSlotsSpec)

/-- ITS FALSE NEIGHBOUR: 'it returns false'. Refute it at one input. -/
def bucketSlotsWrong : ChangeSpec := { name := "bucketSlots", fn := fun _ => fun
  | [d1, d2] => { results := [.lit (.bool false)], args := [d1, d2] }
  | _ => none }
def BucketSlotsWrongFalsely : Prop := bucketSlotsRow.holds Try.pinned (OpenSpec.ofChange bucketSlotsWrong)

/-- 'treillagelaw07.ScalarRights': WHATEVER THE INPUT: true; the input reads as it did. -/
def scalarRightsSpec : ChangeSpec := { name := "scalarRights", fn := fun _ => fun
  | [d1, d2] => { results := [.lit (.bool true)], args := [d1, d2] }
  | _ => none }
def scalarRightsRow : OpenClaim := { program := "ytigdibglkejciaa", sum := "8fc27200c11a2f0b5bae85b9676d67b1a969cc64a671f77d75360a317933a554", func := "treillage/treillagelaw07.ScalarRights", spec := "scalarRights", loops := true, apart := false }
def ScalarRightsSaid : Prop := scalarRightsRow.holds Try.pinned (OpenSpec.ofChange scalarRightsSpec)

/-- ITS FALSE NEIGHBOUR: 'it returns false'. Refute it at one input. -/
def scalarRightsWrong : ChangeSpec := { name := "scalarRights", fn := fun _ => fun
  | [d1, d2] => { results := [.lit (.bool false)], args := [d1, d2] }
  | _ => none }
def ScalarRightsWrongFalsely : Prop := scalarRightsRow.holds Try.pinned (OpenSpec.ofChange scalarRightsWrong)

/-- 'treillagelaw07.ScalarMakes': WHATEVER THE INPUT: true; the input reads as it did. -/
def scalarMakesSpec : ChangeSpec := { name := "scalarMakes", fn := fun _ => fun
  | [d1, d2, d3] => { results := [.lit (.bool true)], args := [d1, d2, d3] }
  | _ => none }
def scalarMakesRow : OpenClaim := { program := "ytigdibglkejciaa", sum := "8fc27200c11a2f0b5bae85b9676d67b1a969cc64a671f77d75360a317933a554", func := "treillage/treillagelaw07.ScalarMakes", spec := "scalarMakes", loops := true, apart := false }
def ScalarMakesSaid : Prop := scalarMakesRow.holds Try.pinned (OpenSpec.ofChange scalarMakesSpec)

/-- ITS FALSE NEIGHBOUR: 'it returns false'. Refute it at one input. -/
def scalarMakesWrong : ChangeSpec := { name := "scalarMakes", fn := fun _ => fun
  | [d1, d2, d3] => { results := [.lit (.bool false)], args := [d1, d2, d3] }
  | _ => none }
def ScalarMakesWrongFalsely : Prop := scalarMakesRow.holds Try.pinned (OpenSpec.ofChange scalarMakesWrong)

/-- 'treillagelaw08.RankTotal': WHATEVER THE INPUT: true; the input reads as it did. -/
def rankTotalSpec : ChangeSpec := { name := "rankTotal", fn := fun _ => fun
  | [d1, d2, d3] => { results := [.lit (.bool true)], args := [d1, d2, d3] }
  | _ => none }
def rankTotalRow : OpenClaim := { program := "ytigdibglkejciaa", sum := "8fc27200c11a2f0b5bae85b9676d67b1a969cc64a671f77d75360a317933a554", func := "treillage/treillagelaw08.RankTotal", spec := "rankTotal", inPlace := ["internal/bytealg.abigen_runtime_cmpstring"], unfollowed := true, recurses := true, loops := true, apart := false }
def RankTotalSaid : Prop := rankTotalRow.holds Try.pinned (OpenSpec.ofChange rankTotalSpec)

/-- ITS FALSE NEIGHBOUR: 'it returns false'. Refute it at one input. -/
def rankTotalWrong : ChangeSpec := { name := "rankTotal", fn := fun _ => fun
  | [d1, d2, d3] => { results := [.lit (.bool false)], args := [d1, d2, d3] }
  | _ => none }
def RankTotalWrongFalsely : Prop := rankTotalRow.holds Try.pinned (OpenSpec.ofChange rankTotalWrong)

/-- 'treillagelaw07.ScalarMeets': WHATEVER THE INPUT: true; the input reads as it did. -/
def scalarMeetsSpec : ChangeSpec := { name := "scalarMeets", fn := fun _ => fun
  | [d1, d2] => { results := [.lit (.bool true)], args := [d1, d2] }
  | _ => none }
def scalarMeetsRow : OpenClaim := { program := "ytigdibglkejciaa", sum := "8fc27200c11a2f0b5bae85b9676d67b1a969cc64a671f77d75360a317933a554", func := "treillage/treillagelaw07.ScalarMeets", spec := "scalarMeets", loops := true, apart := false }
def ScalarMeetsSaid : Prop := scalarMeetsRow.holds Try.pinned (OpenSpec.ofChange scalarMeetsSpec)

/-- ITS FALSE NEIGHBOUR: 'it returns false'. Refute it at one input. -/
def scalarMeetsWrong : ChangeSpec := { name := "scalarMeets", fn := fun _ => fun
  | [d1, d2] => { results := [.lit (.bool false)], args := [d1, d2] }
  | _ => none }
def ScalarMeetsWrongFalsely : Prop := scalarMeetsRow.holds Try.pinned (OpenSpec.ofChange scalarMeetsWrong)

/-- 'treillagelaw07.ScalarOrder': WHATEVER THE INPUT: true; the input reads as it did. -/
def scalarOrderSpec : ChangeSpec := { name := "scalarOrder", fn := fun _ => fun
  | [d1, d2, d3] => { results := [.lit (.bool true)], args := [d1, d2, d3] }
  | _ => none }
def scalarOrderRow : OpenClaim := { program := "ytigdibglkejciaa", sum := "8fc27200c11a2f0b5bae85b9676d67b1a969cc64a671f77d75360a317933a554", func := "treillage/treillagelaw07.ScalarOrder", spec := "scalarOrder", loops := true, apart := false }
def ScalarOrderSaid : Prop := scalarOrderRow.holds Try.pinned (OpenSpec.ofChange scalarOrderSpec)

/-- ITS FALSE NEIGHBOUR: 'it returns false'. Refute it at one input. -/
def scalarOrderWrong : ChangeSpec := { name := "scalarOrder", fn := fun _ => fun
  | [d1, d2, d3] => { results := [.lit (.bool false)], args := [d1, d2, d3] }
  | _ => none }
def ScalarOrderWrongFalsely : Prop := scalarOrderRow.holds Try.pinned (OpenSpec.ofChange scalarOrderWrong)

/-- 'treillagelaw08.RankOrders': WHATEVER THE INPUT: true; the input reads as it did. -/
def rankOrdersSpec : ChangeSpec := { name := "rankOrders", fn := fun _ => fun
  | [d1, d2] => { results := [.lit (.bool true)], args := [d1, d2] }
  | _ => none }
def rankOrdersRow : OpenClaim := { program := "ytigdibglkejciaa", sum := "8fc27200c11a2f0b5bae85b9676d67b1a969cc64a671f77d75360a317933a554", func := "treillage/treillagelaw08.RankOrders", spec := "rankOrders", inPlace := ["internal/bytealg.abigen_runtime_cmpstring"], unfollowed := true, recurses := true, loops := true, apart := false }
def RankOrdersSaid : Prop := rankOrdersRow.holds Try.pinned (OpenSpec.ofChange rankOrdersSpec)

/-- ITS FALSE NEIGHBOUR: 'it returns false'. Refute it at one input. -/
def rankOrdersWrong : ChangeSpec := { name := "rankOrders", fn := fun _ => fun
  | [d1, d2] => { results := [.lit (.bool false)], args := [d1, d2] }
  | _ => none }
def RankOrdersWrongFalsely : Prop := rankOrdersRow.holds Try.pinned (OpenSpec.ofChange rankOrdersWrong)

/-- 'treillagelaw08.RankCopies': WHATEVER THE INPUT: true; the input reads as it did. -/
def rankCopiesSpec : ChangeSpec := { name := "rankCopies", fn := fun _ => fun
  | [d] => { results := [.lit (.bool true)], args := [d] }
  | _ => none }
def rankCopiesRow : OpenClaim := { program := "ytigdibglkejciaa", sum := "8fc27200c11a2f0b5bae85b9676d67b1a969cc64a671f77d75360a317933a554", func := "treillage/treillagelaw08.RankCopies", spec := "rankCopies", inPlace := ["internal/bytealg.abigen_runtime_cmpstring"], unfollowed := true, recurses := true, loops := true, apart := false }
def RankCopiesSaid : Prop := rankCopiesRow.holds Try.pinned (OpenSpec.ofChange rankCopiesSpec)

/-- ITS FALSE NEIGHBOUR: 'it returns false'. Refute it at one input. -/
def rankCopiesWrong : ChangeSpec := { name := "rankCopies", fn := fun _ => fun
  | [d] => { results := [.lit (.bool false)], args := [d] }
  | _ => none }
def RankCopiesWrongFalsely : Prop := rankCopiesRow.holds Try.pinned (OpenSpec.ofChange rankCopiesWrong)

/-- 'treillagelaw05.BucketPlays': WHATEVER THE INPUT: true; the input reads as it did. -/
def bucketPlaysSpec : ChangeSpec := { name := "bucketPlays", fn := fun _ => fun
  | [d1, d2, d3] => { results := [.lit (.bool true)], args := [d1, d2, d3] }
  | _ => none }
def bucketPlaysRow : OpenClaim := { program := "ytigdibglkejciaa", sum := "8fc27200c11a2f0b5bae85b9676d67b1a969cc64a671f77d75360a317933a554", func := "treillage/treillagelaw05.BucketPlays", spec := "bucketPlays", unfollowed := true, recurses := true, apart := false }
def BucketPlaysSaid : Prop := bucketPlaysRow.holds Try.pinned (OpenSpec.ofChange bucketPlaysSpec)

/-- ITS FALSE NEIGHBOUR: 'it returns false'. Refute it at one input. -/
def bucketPlaysWrong : ChangeSpec := { name := "bucketPlays", fn := fun _ => fun
  | [d1, d2, d3] => { results := [.lit (.bool false)], args := [d1, d2, d3] }
  | _ => none }
def BucketPlaysWrongFalsely : Prop := bucketPlaysRow.holds Try.pinned (OpenSpec.ofChange bucketPlaysWrong)

/- THE SECOND FORM. 'bulk': how many values and letters a reading holds, each counted each time it is reached (what is shared counts as often as it is met; a slice's spare places count too). A statement '..UptoSaid' is the law's where the arguments, and the package variables that the reading takes, are together of bulk at most 1048576: NARROWER than '..Said'. Prove '..Said' where nothing that the law and all that it calls make is longer than what came in: it says more and counts as full. Else prove '..UptoSaid'. A law counts once. -/
mutual
def uptoBulk {H : Type} : DataW H → Nat
  | .lit (.string bytes) => bytes.length + 1
  | .lit _ => 1
  | .nil => 1
  | .ptr d => uptoBulk d + 1
  | .slice elems spare => uptoBulkAll elems + uptoBulkAll spare + 1
  | .agg parts => uptoBulkAll parts + 1
  | .iface _ d => uptoBulk d + 1
  | .map entries => uptoBulkEntries entries + 1
  | .held _ => 1
def uptoBulkAll {H : Type} : List (DataW H) → Nat
  | [] => 0
  | d :: r => uptoBulk d + uptoBulkAll r
def uptoBulkEntries {H : Type} : List (Lit × DataW H) → Nat
  | [] => 0
  | x :: r => uptoBulkEntry x + uptoBulkEntries r
def uptoBulkEntry {H : Type} : Lit × DataW H → Nat
  | (.string bytes, d) => bytes.length + uptoBulk d + 1
  | (_, d) => uptoBulk d + 1
 end
def uptoSmall : (H : Type) → List (DataW H) → Bool := fun _ ds => decide (uptoBulkAll ds ≤ 1048576)
def OpenSpec.upto (s : _root_.Go.ChangeSpec) : _root_.Go.OpenSpec := { _root_.Go.OpenSpec.ofChange s with cond := some uptoSmall }

/-- 'treillagelaw05.BucketSlots', WHERE WHAT IT READS IS OF BULK AT MOST 1048576: true; the input reads as it did. -/
def bucketSlotsUptoRow : OpenClaim := { program := "ytigdibglkejciaa", sum := "8fc27200c11a2f0b5bae85b9676d67b1a969cc64a671f77d75360a317933a554", func := "treillage/treillagelaw05.BucketSlots", spec := "bucketSlots", apart := false, narrowed := true }
def BucketSlotsUptoSaid : Prop := bucketSlotsUptoRow.holds Try.pinned (OpenSpec.upto bucketSlotsSpec)

/-- 'treillagelaw07.ScalarRights', WHERE WHAT IT READS IS OF BULK AT MOST 1048576: true; the input reads as it did. -/
def scalarRightsUptoRow : OpenClaim := { program := "ytigdibglkejciaa", sum := "8fc27200c11a2f0b5bae85b9676d67b1a969cc64a671f77d75360a317933a554", func := "treillage/treillagelaw07.ScalarRights", spec := "scalarRights", loops := true, apart := false, narrowed := true }
def ScalarRightsUptoSaid : Prop := scalarRightsUptoRow.holds Try.pinned (OpenSpec.upto scalarRightsSpec)

/-- 'treillagelaw07.ScalarMakes', WHERE WHAT IT READS IS OF BULK AT MOST 1048576: true; the input reads as it did. -/
def scalarMakesUptoRow : OpenClaim := { program := "ytigdibglkejciaa", sum := "8fc27200c11a2f0b5bae85b9676d67b1a969cc64a671f77d75360a317933a554", func := "treillage/treillagelaw07.ScalarMakes", spec := "scalarMakes", loops := true, apart := false, narrowed := true }
def ScalarMakesUptoSaid : Prop := scalarMakesUptoRow.holds Try.pinned (OpenSpec.upto scalarMakesSpec)

/-- 'treillagelaw08.RankTotal', WHERE WHAT IT READS IS OF BULK AT MOST 1048576: true; the input reads as it did. -/
def rankTotalUptoRow : OpenClaim := { program := "ytigdibglkejciaa", sum := "8fc27200c11a2f0b5bae85b9676d67b1a969cc64a671f77d75360a317933a554", func := "treillage/treillagelaw08.RankTotal", spec := "rankTotal", inPlace := ["internal/bytealg.abigen_runtime_cmpstring"], unfollowed := true, recurses := true, loops := true, apart := false, narrowed := true }
def RankTotalUptoSaid : Prop := rankTotalUptoRow.holds Try.pinned (OpenSpec.upto rankTotalSpec)

/-- 'treillagelaw07.ScalarMeets', WHERE WHAT IT READS IS OF BULK AT MOST 1048576: true; the input reads as it did. -/
def scalarMeetsUptoRow : OpenClaim := { program := "ytigdibglkejciaa", sum := "8fc27200c11a2f0b5bae85b9676d67b1a969cc64a671f77d75360a317933a554", func := "treillage/treillagelaw07.ScalarMeets", spec := "scalarMeets", loops := true, apart := false, narrowed := true }
def ScalarMeetsUptoSaid : Prop := scalarMeetsUptoRow.holds Try.pinned (OpenSpec.upto scalarMeetsSpec)

/-- 'treillagelaw07.ScalarOrder', WHERE WHAT IT READS IS OF BULK AT MOST 1048576: true; the input reads as it did. -/
def scalarOrderUptoRow : OpenClaim := { program := "ytigdibglkejciaa", sum := "8fc27200c11a2f0b5bae85b9676d67b1a969cc64a671f77d75360a317933a554", func := "treillage/treillagelaw07.ScalarOrder", spec := "scalarOrder", loops := true, apart := false, narrowed := true }
def ScalarOrderUptoSaid : Prop := scalarOrderUptoRow.holds Try.pinned (OpenSpec.upto scalarOrderSpec)

/-- 'treillagelaw08.RankOrders', WHERE WHAT IT READS IS OF BULK AT MOST 1048576: true; the input reads as it did. -/
def rankOrdersUptoRow : OpenClaim := { program := "ytigdibglkejciaa", sum := "8fc27200c11a2f0b5bae85b9676d67b1a969cc64a671f77d75360a317933a554", func := "treillage/treillagelaw08.RankOrders", spec := "rankOrders", inPlace := ["internal/bytealg.abigen_runtime_cmpstring"], unfollowed := true, recurses := true, loops := true, apart := false, narrowed := true }
def RankOrdersUptoSaid : Prop := rankOrdersUptoRow.holds Try.pinned (OpenSpec.upto rankOrdersSpec)

/-- 'treillagelaw08.RankCopies', WHERE WHAT IT READS IS OF BULK AT MOST 1048576: true; the input reads as it did. -/
def rankCopiesUptoRow : OpenClaim := { program := "ytigdibglkejciaa", sum := "8fc27200c11a2f0b5bae85b9676d67b1a969cc64a671f77d75360a317933a554", func := "treillage/treillagelaw08.RankCopies", spec := "rankCopies", inPlace := ["internal/bytealg.abigen_runtime_cmpstring"], unfollowed := true, recurses := true, loops := true, apart := false, narrowed := true }
def RankCopiesUptoSaid : Prop := rankCopiesUptoRow.holds Try.pinned (OpenSpec.upto rankCopiesSpec)

/-- 'treillagelaw05.BucketPlays', WHERE WHAT IT READS IS OF BULK AT MOST 1048576: true; the input reads as it did. -/
def bucketPlaysUptoRow : OpenClaim := { program := "ytigdibglkejciaa", sum := "8fc27200c11a2f0b5bae85b9676d67b1a969cc64a671f77d75360a317933a554", func := "treillage/treillagelaw05.BucketPlays", spec := "bucketPlays", unfollowed := true, recurses := true, apart := false, narrowed := true }
def BucketPlaysUptoSaid : Prop := bucketPlaysUptoRow.holds Try.pinned (OpenSpec.upto bucketPlaysSpec)

end Rows
end Go.Proofs.Ytigdibglkejciaa
