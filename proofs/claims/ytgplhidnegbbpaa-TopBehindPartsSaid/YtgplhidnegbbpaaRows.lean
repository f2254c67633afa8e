/-
  No cell of these rows narrows 'for every input' (looked for: loops, veiled, ifaces, maps, wideKeys, modest, calm, conditions, laid).
  DERIVED. THE GIVEN ROWS OF THIS SEAT. 11 by the template 'for every input the law returns true; each argument reads behind the call as it read before'; 0 by the template 'total and deterministic' (their statements: YtgplhidnegbbpaaTotals.lean).
  GIVEN WITH THE SEED: the statements are not yours to turn. If you find one false, say at which input.
  Laid BY PROGRAM, IN A SANDBOX (cutbox-rows.mjs): the forced cells as the released guide's own fill.sh prints them over the translation 55529d5e8587d3b8… (all of the seat's roots in one cut). By AI agents, Wed Nov 11 2026. No macro, syntax, notation, axiom, sorry.
-/
import Derived.Test.YtgplhidnegbbpaaChecked
import GoSem.Claim
import GoSem.ClaimJoined
import GoSem.ClaimMapViews
import Derived.JoinedTies
import Derived.KernelRfl
namespace Go.Proofs.Ytgplhidnegbbpaa
/- THE CELL 'sum', in the pinned program and in every row, IS THE sha256 OF THE DUMP (.gsa) THAT YtgplhidnegbbpaaProg.lean LOADS. Nothing in Lean hashes anything: it is a label: what it is worth is what the hold of that sum in a sandbox is worth. -/
noncomputable def Try.pinned : Pinned := { name := "ytgplhidnegbbpaa", sum := "55529d5e8587d3b8281e61867194462ff8af90bf0acde92635d57f182ab107b7", checked := Try.checked }
namespace Rows
def none {H : Type} : Left H := { results := [], args := [] }

/-- 'tackroomtop.TopPutTwice': WHATEVER THE INPUT: true; the input reads as it did. -/
def topPutTwiceSpec : ChangeSpec := { name := "topPutTwice", fn := fun _ => fun
  | [d1, d2, d3] => { results := [.lit (.bool true)], args := [d1, d2, d3] }
  | _ => none }
def topPutTwiceRow : OpenClaim := { program := "ytgplhidnegbbpaa", sum := "55529d5e8587d3b8281e61867194462ff8af90bf0acde92635d57f182ab107b7", func := "tackroom/tackroomtop.TopPutTwice", spec := "topPutTwice", unfollowed := true, recurses := true, apart := false }
def TopPutTwiceSaid : Prop := topPutTwiceRow.holds Try.pinned (OpenSpec.ofChange topPutTwiceSpec)

/-- ITS FALSE NEIGHBOUR: 'it returns false'. Refute it at one input. -/
def topPutTwiceWrong : ChangeSpec := { name := "topPutTwice", fn := fun _ => fun
  | [d1, d2, d3] => { results := [.lit (.bool false)], args := [d1, d2, d3] }
  | _ => none }
def TopPutTwiceWrongFalsely : Prop := topPutTwiceRow.holds Try.pinned (OpenSpec.ofChange topPutTwiceWrong)

/-- 'tackroomtop.TopPutParts': WHATEVER THE INPUT: true; the input reads as it did. -/
def topPutPartsSpec : ChangeSpec := { name := "topPutParts", fn := fun _ => fun
  | [d1, d2, d3, d4] => { results := [.lit (.bool true)], args := [d1, d2, d3, d4] }
  | _ => none }
def topPutPartsRow : OpenClaim := { program := "ytgplhidnegbbpaa", sum := "55529d5e8587d3b8281e61867194462ff8af90bf0acde92635d57f182ab107b7", func := "tackroom/tackroomtop.TopPutParts", spec := "topPutParts", unfollowed := true, recurses := true, apart := false }
def TopPutPartsSaid : Prop := topPutPartsRow.holds Try.pinned (OpenSpec.ofChange topPutPartsSpec)

/-- ITS FALSE NEIGHBOUR: 'it returns false'. Refute it at one input. -/
def topPutPartsWrong : ChangeSpec := { name := "topPutParts", fn := fun _ => fun
  | [d1, d2, d3, d4] => { results := [.lit (.bool false)], args := [d1, d2, d3, d4] }
  | _ => none }
def TopPutPartsWrongFalsely : Prop := topPutPartsRow.holds Try.pinned (OpenSpec.ofChange topPutPartsWrong)

/-- 'tackroomtop.TopLogShifted': WHATEVER THE INPUT: true; the input reads as it did. -/
def topLogShiftedSpec : ChangeSpec := { name := "topLogShifted", fn := fun _ => fun
  | [d1, d2, d3, d4, d5] => { results := [.lit (.bool true)], args := [d1, d2, d3, d4, d5] }
  | _ => none }
def topLogShiftedRow : OpenClaim := { program := "ytgplhidnegbbpaa", sum := "55529d5e8587d3b8281e61867194462ff8af90bf0acde92635d57f182ab107b7", func := "tackroom/tackroomtop.TopLogShifted", spec := "topLogShifted", unfollowed := true, recurses := true, apart := false }
def TopLogShiftedSaid : Prop := topLogShiftedRow.holds Try.pinned (OpenSpec.ofChange topLogShiftedSpec)

/-- ITS FALSE NEIGHBOUR: 'it returns false'. Refute it at one input. -/
def topLogShiftedWrong : ChangeSpec := { name := "topLogShifted", fn := fun _ => fun
  | [d1, d2, d3, d4, d5] => { results := [.lit (.bool false)], args := [d1, d2, d3, d4, d5] }
  | _ => none }
def TopLogShiftedWrongFalsely : Prop := topLogShiftedRow.holds Try.pinned (OpenSpec.ofChange topLogShiftedWrong)

/-- 'tackroomtop.TopCutTwice': WHATEVER THE INPUT: true; the input reads as it did. -/
def topCutTwiceSpec : ChangeSpec := { name := "topCutTwice", fn := fun _ => fun
  | [d1, d2, d3] => { results := [.lit (.bool true)], args := [d1, d2, d3] }
  | _ => none }
def topCutTwiceRow : OpenClaim := { program := "ytgplhidnegbbpaa", sum := "55529d5e8587d3b8281e61867194462ff8af90bf0acde92635d57f182ab107b7", func := "tackroom/tackroomtop.TopCutTwice", spec := "topCutTwice", unfollowed := true, recurses := true, apart := false }
def TopCutTwiceSaid : Prop := topCutTwiceRow.holds Try.pinned (OpenSpec.ofChange topCutTwiceSpec)

/-- ITS FALSE NEIGHBOUR: 'it returns false'. Refute it at one input. -/
def topCutTwiceWrong : ChangeSpec := { name := "topCutTwice", fn := fun _ => fun
  | [d1, d2, d3] => { results := [.lit (.bool false)], args := [d1, d2, d3] }
  | _ => none }
def TopCutTwiceWrongFalsely : Prop := topCutTwiceRow.holds Try.pinned (OpenSpec.ofChange topCutTwiceWrong)

/-- 'tackroomtop.TopSessionsNamed': WHATEVER THE INPUT: true; the input reads as it did. -/
def topSessionsNamedSpec : ChangeSpec := { name := "topSessionsNamed", fn := fun _ => fun
  | [d1, d2, d3] => { results := [.lit (.bool true)], args := [d1, d2, d3] }
  | _ => none }
def topSessionsNamedRow : OpenClaim := { program := "ytgplhidnegbbpaa", sum := "55529d5e8587d3b8281e61867194462ff8af90bf0acde92635d57f182ab107b7", func := "tackroom/tackroomtop.TopSessionsNamed", spec := "topSessionsNamed", inPlace := ["slices.overlaps[tackroom/api.Session]"], unfollowed := true, recurses := true, apart := false }
def TopSessionsNamedSaid : Prop := topSessionsNamedRow.holds Try.pinned (OpenSpec.ofChange topSessionsNamedSpec)

/-- ITS FALSE NEIGHBOUR: 'it returns false'. Refute it at one input. -/
def topSessionsNamedWrong : ChangeSpec := { name := "topSessionsNamed", fn := fun _ => fun
  | [d1, d2, d3] => { results := [.lit (.bool false)], args := [d1, d2, d3] }
  | _ => none }
def TopSessionsNamedWrongFalsely : Prop := topSessionsNamedRow.holds Try.pinned (OpenSpec.ofChange topSessionsNamedWrong)

/-- 'tackroomtop.TopBehindParts': WHATEVER THE INPUT: true; the input reads as it did. -/
def topBehindPartsSpec : ChangeSpec := { name := "topBehindParts", fn := fun _ => fun
  | [d1, d2, d3, d4] => { results := [.lit (.bool true)], args := [d1, d2, d3, d4] }
  | _ => none }
def topBehindPartsRow : OpenClaim := { program := "ytgplhidnegbbpaa", sum := "55529d5e8587d3b8281e61867194462ff8af90bf0acde92635d57f182ab107b7", func := "tackroom/tackroomtop.TopBehindParts", spec := "topBehindParts", unfollowed := true, recurses := true, apart := false }
def TopBehindPartsSaid : Prop := topBehindPartsRow.holds Try.pinned (OpenSpec.ofChange topBehindPartsSpec)

/-- ITS FALSE NEIGHBOUR: 'it returns false'. Refute it at one input. -/
def topBehindPartsWrong : ChangeSpec := { name := "topBehindParts", fn := fun _ => fun
  | [d1, d2, d3, d4] => { results := [.lit (.bool false)], args := [d1, d2, d3, d4] }
  | _ => none }
def TopBehindPartsWrongFalsely : Prop := topBehindPartsRow.holds Try.pinned (OpenSpec.ofChange topBehindPartsWrong)

/-- 'tackroomtop.TopGoneTwice': WHATEVER THE INPUT: true; the input reads as it did. -/
def topGoneTwiceSpec : ChangeSpec := { name := "topGoneTwice", fn := fun _ => fun
  | [d1, d2] => { results := [.lit (.bool true)], args := [d1, d2] }
  | _ => none }
def topGoneTwiceRow : OpenClaim := { program := "ytgplhidnegbbpaa", sum := "55529d5e8587d3b8281e61867194462ff8af90bf0acde92635d57f182ab107b7", func := "tackroom/tackroomtop.TopGoneTwice", spec := "topGoneTwice", inPlace := ["internal/bytealg.abigen_runtime_cmpstring", "slices.overlaps[tackroom/api.Lock]"], unfollowed := true, recurses := true, apart := false }
def TopGoneTwiceSaid : Prop := topGoneTwiceRow.holds Try.pinned (OpenSpec.ofChange topGoneTwiceSpec)

/-- ITS FALSE NEIGHBOUR: 'it returns false'. Refute it at one input. -/
def topGoneTwiceWrong : ChangeSpec := { name := "topGoneTwice", fn := fun _ => fun
  | [d1, d2] => { results := [.lit (.bool false)], args := [d1, d2] }
  | _ => none }
def TopGoneTwiceWrongFalsely : Prop := topGoneTwiceRow.holds Try.pinned (OpenSpec.ofChange topGoneTwiceWrong)

/-- 'tackroomtop.TopLocksApart': WHATEVER THE INPUT: true; the input reads as it did. -/
def topLocksApartSpec : ChangeSpec := { name := "topLocksApart", fn := fun _ => fun
  | [d1, d2, d3, d4, d5, d6, d7] => { results := [.lit (.bool true)], args := [d1, d2, d3, d4, d5, d6, d7] }
  | _ => none }
def topLocksApartRow : OpenClaim := { program := "ytgplhidnegbbpaa", sum := "55529d5e8587d3b8281e61867194462ff8af90bf0acde92635d57f182ab107b7", func := "tackroom/tackroomtop.TopLocksApart", spec := "topLocksApart", inPlace := ["internal/bytealg.abigen_runtime_cmpstring", "slices.overlaps[tackroom/api.Lock]"], unfollowed := true, recurses := true, apart := false }
def TopLocksApartSaid : Prop := topLocksApartRow.holds Try.pinned (OpenSpec.ofChange topLocksApartSpec)

/-- ITS FALSE NEIGHBOUR: 'it returns false'. Refute it at one input. -/
def topLocksApartWrong : ChangeSpec := { name := "topLocksApart", fn := fun _ => fun
  | [d1, d2, d3, d4, d5, d6, d7] => { results := [.lit (.bool false)], args := [d1, d2, d3, d4, d5, d6, d7] }
  | _ => none }
def TopLocksApartWrongFalsely : Prop := topLocksApartRow.holds Try.pinned (OpenSpec.ofChange topLocksApartWrong)

/-- 'tackroomtop.TopPairsNamed': WHATEVER THE INPUT: true; the input reads as it did. -/
def topPairsNamedSpec : ChangeSpec := { name := "topPairsNamed", fn := fun _ => fun
  | [d1, d2, d3] => { results := [.lit (.bool true)], args := [d1, d2, d3] }
  | _ => none }
def topPairsNamedRow : OpenClaim := { program := "ytgplhidnegbbpaa", sum := "55529d5e8587d3b8281e61867194462ff8af90bf0acde92635d57f182ab107b7", func := "tackroom/tackroomtop.TopPairsNamed", spec := "topPairsNamed", inPlace := ["internal/bytealg.abigen_runtime_cmpstring", "slices.overlaps[tackroom/api.Lock]", "slices.overlaps[tackroom/api.Pair]"], unfollowed := true, recurses := true, apart := false }
def TopPairsNamedSaid : Prop := topPairsNamedRow.holds Try.pinned (OpenSpec.ofChange topPairsNamedSpec)

/-- ITS FALSE NEIGHBOUR: 'it returns false'. Refute it at one input. -/
def topPairsNamedWrong : ChangeSpec := { name := "topPairsNamed", fn := fun _ => fun
  | [d1, d2, d3] => { results := [.lit (.bool false)], args := [d1, d2, d3] }
  | _ => none }
def TopPairsNamedWrongFalsely : Prop := topPairsNamedRow.holds Try.pinned (OpenSpec.ofChange topPairsNamedWrong)

/-- 'tackroomtop.TopLocksNamed': WHATEVER THE INPUT: true; the input reads as it did. -/
def topLocksNamedSpec : ChangeSpec := { name := "topLocksNamed", fn := fun _ => fun
  | [d1, d2, d3, d4] => { results := [.lit (.bool true)], args := [d1, d2, d3, d4] }
  | _ => none }
def topLocksNamedRow : OpenClaim := { program := "ytgplhidnegbbpaa", sum := "55529d5e8587d3b8281e61867194462ff8af90bf0acde92635d57f182ab107b7", func := "tackroom/tackroomtop.TopLocksNamed", spec := "topLocksNamed", inPlace := ["internal/bytealg.abigen_runtime_cmpstring", "slices.overlaps[tackroom/api.Lock]"], unfollowed := true, recurses := true, apart := false }
def TopLocksNamedSaid : Prop := topLocksNamedRow.holds Try.pinned (OpenSpec.ofChange topLocksNamedSpec)

/-- ITS FALSE NEIGHBOUR: 'it returns false'. Refute it at one input. -/
def topLocksNamedWrong : ChangeSpec := { name := "topLocksNamed", fn := fun _ => fun
  | [d1, d2, d3, d4] => { results := [.lit (.bool false)], args := [d1, d2, d3, d4] }
  | _ => none }
def TopLocksNamedWrongFalsely : Prop := topLocksNamedRow.holds Try.pinned (OpenSpec.ofChange topLocksNamedWrong)

/-- 'tackroomtop.TopClientsNamed': WHATEVER THE INPUT: true; the input reads as it did. -/
def topClientsNamedSpec : ChangeSpec := { name := "topClientsNamed", fn := fun _ => fun
  | [d1, d2, d3, d4] => { results := [.lit (.bool true)], args := [d1, d2, d3, d4] }
  | _ => none }
def topClientsNamedRow : OpenClaim := { program := "ytgplhidnegbbpaa", sum := "55529d5e8587d3b8281e61867194462ff8af90bf0acde92635d57f182ab107b7", func := "tackroom/tackroomtop.TopClientsNamed", spec := "topClientsNamed", inPlace := ["internal/bytealg.abigen_runtime_cmpstring", "slices.overlaps[tackroom/api.Lock]"], unfollowed := true, recurses := true, apart := false }
def TopClientsNamedSaid : Prop := topClientsNamedRow.holds Try.pinned (OpenSpec.ofChange topClientsNamedSpec)

/-- ITS FALSE NEIGHBOUR: 'it returns false'. Refute it at one input. -/
def topClientsNamedWrong : ChangeSpec := { name := "topClientsNamed", fn := fun _ => fun
  | [d1, d2, d3, d4] => { results := [.lit (.bool false)], args := [d1, d2, d3, d4] }
  | _ => none }
def TopClientsNamedWrongFalsely : Prop := topClientsNamedRow.holds Try.pinned (OpenSpec.ofChange topClientsNamedWrong)

/- THE SECOND FORM. 'bulk': how many values and letters a reading holds, each counted each time it is reached (what is shared counts as often as it is met; a slice's spare places count too). A statement '..UptoSaid' is the law's where the arguments, and the package variables that the reading takes, are together of bulk at most 1048576: NARROWER than '..Said'. Prove '..Said' where nothing that the law and all that it calls make is longer than what came in: it says more and counts as full. Else prove '..UptoSaid'. A law counts once. -/
mutual
def uptoBulk {H : Type} : DataW H → Nat
  | .lit (.string bytes) => bytes.length + 1
  | .lit _ => 1
  | .nil => 1
  | .ptr d => uptoBulk d + 1
  | .slice elems spare => uptoBulkAll elems + uptoBulkAll spare + 1
  | .agg parts => uptoBulkAll parts + 1
  | .iface _ d => uptoBulk d + 1
  | .map entries => uptoBulkEntries entries + 1
  | .held _ => 1
def uptoBulkAll {H : Type} : List (DataW H) → Nat
  | [] => 0
  | d :: r => uptoBulk d + uptoBulkAll r
def uptoBulkEntries {H : Type} : List (Lit × DataW H) → Nat
  | [] => 0
  | x :: r => uptoBulkEntry x + uptoBulkEntries r
def uptoBulkEntry {H : Type} : Lit × DataW H → Nat
  | (.string bytes, d) => bytes.length + uptoBulk d + 1
  | (_, d) => uptoBulk d + 1
 end
def uptoSmall : (H : Type) → List (DataW H) → Bool := fun _ ds => decide (uptoBulkAll ds ≤ 1048576)
def OpenSpec.upto (s : _root_.Go.ChangeSpec) : _root_.Go.OpenSpec := { _root_.Go.OpenSpec.ofChange s with cond := some uptoSmall }

/-- 'tackroomtop.TopPutTwice', WHERE WHAT IT READS IS OF BULK AT MOST 1048576: true; the input reads as it did. -/
def topPutTwiceUptoRow : OpenClaim := { program := "ytgplhidnegbbpaa", sum := "55529d5e8587d3b8281e61867194462ff8af90bf0acde92635d57f182ab107b7", func := "tackroom/tackroomtop.TopPutTwice", spec := "topPutTwice", unfollowed := true, recurses := true, apart := false, narrowed := true }
def TopPutTwiceUptoSaid : Prop := topPutTwiceUptoRow.holds Try.pinned (OpenSpec.upto topPutTwiceSpec)

/-- 'tackroomtop.TopPutParts', WHERE WHAT IT READS IS OF BULK AT MOST 1048576: true; the input reads as it did. -/
def topPutPartsUptoRow : OpenClaim := { program := "ytgplhidnegbbpaa", sum := "55529d5e8587d3b8281e61867194462ff8af90bf0acde92635d57f182ab107b7", func := "tackroom/tackroomtop.TopPutParts", spec := "topPutParts", unfollowed := true, recurses := true, apart := false, narrowed := true }
def TopPutPartsUptoSaid : Prop := topPutPartsUptoRow.holds Try.pinned (OpenSpec.upto topPutPartsSpec)

/-- 'tackroomtop.TopLogShifted', WHERE WHAT IT READS IS OF BULK AT MOST 1048576: true; the input reads as it did. -/
def topLogShiftedUptoRow : OpenClaim := { program := "ytgplhidnegbbpaa", sum := "55529d5e8587d3b8281e61867194462ff8af90bf0acde92635d57f182ab107b7", func := "tackroom/tackroomtop.TopLogShifted", spec := "topLogShifted", unfollowed := true, recurses := true, apart := false, narrowed := true }
def TopLogShiftedUptoSaid : Prop := topLogShiftedUptoRow.holds Try.pinned (OpenSpec.upto topLogShiftedSpec)

/-- 'tackroomtop.TopCutTwice', WHERE WHAT IT READS IS OF BULK AT MOST 1048576: true; the input reads as it did. -/
def topCutTwiceUptoRow : OpenClaim := { program := "ytgplhidnegbbpaa", sum := "55529d5e8587d3b8281e61867194462ff8af90bf0acde92635d57f182ab107b7", func := "tackroom/tackroomtop.TopCutTwice", spec := "topCutTwice", unfollowed := true, recurses := true, apart := false, narrowed := true }
def TopCutTwiceUptoSaid : Prop := topCutTwiceUptoRow.holds Try.pinned (OpenSpec.upto topCutTwiceSpec)

/-- 'tackroomtop.TopSessionsNamed', WHERE WHAT IT READS IS OF BULK AT MOST 1048576: true; the input reads as it did. -/
def topSessionsNamedUptoRow : OpenClaim := { program := "ytgplhidnegbbpaa", sum := "55529d5e8587d3b8281e61867194462ff8af90bf0acde92635d57f182ab107b7", func := "tackroom/tackroomtop.TopSessionsNamed", spec := "topSessionsNamed", inPlace := ["slices.overlaps[tackroom/api.Session]"], unfollowed := true, recurses := true, apart := false, narrowed := true }
def TopSessionsNamedUptoSaid : Prop := topSessionsNamedUptoRow.holds Try.pinned (OpenSpec.upto topSessionsNamedSpec)

/-- 'tackroomtop.TopBehindParts', WHERE WHAT IT READS IS OF BULK AT MOST 1048576: true; the input reads as it did. -/
def topBehindPartsUptoRow : OpenClaim := { program := "ytgplhidnegbbpaa", sum := "55529d5e8587d3b8281e61867194462ff8af90bf0acde92635d57f182ab107b7", func := "tackroom/tackroomtop.TopBehindParts", spec := "topBehindParts", unfollowed := true, recurses := true, apart := false, narrowed := true }
def TopBehindPartsUptoSaid : Prop := topBehindPartsUptoRow.holds Try.pinned (OpenSpec.upto topBehindPartsSpec)

/-- 'tackroomtop.TopGoneTwice', WHERE WHAT IT READS IS OF BULK AT MOST 1048576: true; the input reads as it did. -/
def topGoneTwiceUptoRow : OpenClaim := { program := "ytgplhidnegbbpaa", sum := "55529d5e8587d3b8281e61867194462ff8af90bf0acde92635d57f182ab107b7", func := "tackroom/tackroomtop.TopGoneTwice", spec := "topGoneTwice", inPlace := ["internal/bytealg.abigen_runtime_cmpstring", "slices.overlaps[tackroom/api.Lock]"], unfollowed := true, recurses := true, apart := false, narrowed := true }
def TopGoneTwiceUptoSaid : Prop := topGoneTwiceUptoRow.holds Try.pinned (OpenSpec.upto topGoneTwiceSpec)

/-- 'tackroomtop.TopLocksApart', WHERE WHAT IT READS IS OF BULK AT MOST 1048576: true; the input reads as it did. -/
def topLocksApartUptoRow : OpenClaim := { program := "ytgplhidnegbbpaa", sum := "55529d5e8587d3b8281e61867194462ff8af90bf0acde92635d57f182ab107b7", func := "tackroom/tackroomtop.TopLocksApart", spec := "topLocksApart", inPlace := ["internal/bytealg.abigen_runtime_cmpstring", "slices.overlaps[tackroom/api.Lock]"], unfollowed := true, recurses := true, apart := false, narrowed := true }
def TopLocksApartUptoSaid : Prop := topLocksApartUptoRow.holds Try.pinned (OpenSpec.upto topLocksApartSpec)

/-- 'tackroomtop.TopPairsNamed', WHERE WHAT IT READS IS OF BULK AT MOST 1048576: true; the input reads as it did. -/
def topPairsNamedUptoRow : OpenClaim := { program := "ytgplhidnegbbpaa", sum := "55529d5e8587d3b8281e61867194462ff8af90bf0acde92635d57f182ab107b7", func := "tackroom/tackroomtop.TopPairsNamed", spec := "topPairsNamed", inPlace := ["internal/bytealg.abigen_runtime_cmpstring", "slices.overlaps[tackroom/api.Lock]", "slices.overlaps[tackroom/api.Pair]"], unfollowed := true, recurses := true, apart := false, narrowed := true }
def TopPairsNamedUptoSaid : Prop := topPairsNamedUptoRow.holds Try.pinned (OpenSpec.upto topPairsNamedSpec)

/-- 'tackroomtop.TopLocksNamed', WHERE WHAT IT READS IS OF BULK AT MOST 1048576: true; the input reads as it did. -/
def topLocksNamedUptoRow : OpenClaim := { program := "ytgplhidnegbbpaa", sum := "55529d5e8587d3b8281e61867194462ff8af90bf0acde92635d57f182ab107b7", func := "tackroom/tackroomtop.TopLocksNamed", spec := "topLocksNamed", inPlace := ["internal/bytealg.abigen_runtime_cmpstring", "slices.overlaps[tackroom/api.Lock]"], unfollowed := true, recurses := true, apart := false, narrowed := true }
def TopLocksNamedUptoSaid : Prop := topLocksNamedUptoRow.holds Try.pinned (OpenSpec.upto topLocksNamedSpec)

/-- 'tackroomtop.TopClientsNamed', WHERE WHAT IT READS IS OF BULK AT MOST 1048576: true; the input reads as it did. -/
def topClientsNamedUptoRow : OpenClaim := { program := "ytgplhidnegbbpaa", sum := "55529d5e8587d3b8281e61867194462ff8af90bf0acde92635d57f182ab107b7", func := "tackroom/tackroomtop.TopClientsNamed", spec := "topClientsNamed", inPlace := ["internal/bytealg.abigen_runtime_cmpstring", "slices.overlaps[tackroom/api.Lock]"], unfollowed := true, recurses := true, apart := false, narrowed := true }
def TopClientsNamedUptoSaid : Prop := topClientsNamedUptoRow.holds Try.pinned (OpenSpec.upto topClientsNamedSpec)

end Rows
end Go.Proofs.Ytgplhidnegbbpaa
