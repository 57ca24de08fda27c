/-
  No cell of these rows narrows 'for every input' (looked for: loops, veiled, ifaces, maps, wideKeys, modest, calm, conditions, laid).
  DERIVED. THE GIVEN ROWS OF THIS SEAT. 8 by the template 'for every input the law returns true; each argument reads behind the call as it read before'; 0 by the template 'total and deterministic' (their statements: YtfhojgammfkabaaTotals.lean).
  GIVEN WITH THE SEED: the statements are not yours to turn. If you find one false, say at which input.
  Laid BY PROGRAM, IN A SANDBOX (cutbox-rows.mjs): the forced cells as the released guide's own fill.sh prints them over the translation 68e8b2e3be11fbd1… (all of the seat's roots in one cut). By AI agents, Wed Nov 11 2026. No macro, syntax, notation, axiom, sorry.
-/
import Derived.Test.YtfhojgammfkabaaChecked
import GoSem.Claim
import GoSem.ClaimJoined
import GoSem.ClaimMapViews
import Derived.JoinedTies
import Derived.KernelRfl
namespace Go.Proofs.Ytfhojgammfkabaa
/- THE CELL 'sum', in the pinned program and in every row, IS THE sha256 OF THE DUMP (.gsa) THAT YtfhojgammfkabaaProg.lean LOADS. Nothing in Lean hashes anything: it is a label: what it is worth is what the hold of that sum in a sandbox is worth. -/
noncomputable def Try.pinned : Pinned := { name := "ytfhojgammfkabaa", sum := "68e8b2e3be11fbd1e750555a0457a8ffea2bda223067cfda20be53c0edc0e43d", checked := Try.checked }
namespace Rows
def none {H : Type} : Left H := { results := [], args := [] }

/-- 'winnowlaw11.MergeGroups': WHATEVER THE INPUT: true; the input reads as it did. -/
def mergeGroupsSpec : ChangeSpec := { name := "mergeGroups", fn := fun _ => fun
  | [d1, d2] => { results := [.lit (.bool true)], args := [d1, d2] }
  | _ => none }
def mergeGroupsRow : OpenClaim := { program := "ytfhojgammfkabaa", sum := "68e8b2e3be11fbd1e750555a0457a8ffea2bda223067cfda20be53c0edc0e43d", func := "winnow/winnowlaw11.MergeGroups", spec := "mergeGroups", unfollowed := true, recurses := true, apart := false }
def MergeGroupsSaid : Prop := mergeGroupsRow.holds Try.pinned (OpenSpec.ofChange mergeGroupsSpec)

/-- ITS FALSE NEIGHBOUR: 'it returns false'. Refute it at one input. -/
def mergeGroupsWrong : ChangeSpec := { name := "mergeGroups", fn := fun _ => fun
  | [d1, d2] => { results := [.lit (.bool false)], args := [d1, d2] }
  | _ => none }
def MergeGroupsWrongFalsely : Prop := mergeGroupsRow.holds Try.pinned (OpenSpec.ofChange mergeGroupsWrong)

/-- 'winnowlaw11.MergeStable': WHATEVER THE INPUT: true; the input reads as it did. -/
def mergeStableSpec : ChangeSpec := { name := "mergeStable", fn := fun _ => fun
  | [d] => { results := [.lit (.bool true)], args := [d] }
  | _ => none }
def mergeStableRow : OpenClaim := { program := "ytfhojgammfkabaa", sum := "68e8b2e3be11fbd1e750555a0457a8ffea2bda223067cfda20be53c0edc0e43d", func := "winnow/winnowlaw11.MergeStable", spec := "mergeStable", unfollowed := true, recurses := true, apart := false }
def MergeStableSaid : Prop := mergeStableRow.holds Try.pinned (OpenSpec.ofChange mergeStableSpec)

/-- ITS FALSE NEIGHBOUR: 'it returns false'. Refute it at one input. -/
def mergeStableWrong : ChangeSpec := { name := "mergeStable", fn := fun _ => fun
  | [d] => { results := [.lit (.bool false)], args := [d] }
  | _ => none }
def MergeStableWrongFalsely : Prop := mergeStableRow.holds Try.pinned (OpenSpec.ofChange mergeStableWrong)

/-- 'winnowlaw11.MergeUpTo': WHATEVER THE INPUT: true; the input reads as it did. -/
def mergeUpToSpec : ChangeSpec := { name := "mergeUpTo", fn := fun _ => fun
  | [d1, d2, d3] => { results := [.lit (.bool true)], args := [d1, d2, d3] }
  | _ => none }
def mergeUpToRow : OpenClaim := { program := "ytfhojgammfkabaa", sum := "68e8b2e3be11fbd1e750555a0457a8ffea2bda223067cfda20be53c0edc0e43d", func := "winnow/winnowlaw11.MergeUpTo", spec := "mergeUpTo", unfollowed := true, recurses := true, apart := false }
def MergeUpToSaid : Prop := mergeUpToRow.holds Try.pinned (OpenSpec.ofChange mergeUpToSpec)

/-- ITS FALSE NEIGHBOUR: 'it returns false'. Refute it at one input. -/
def mergeUpToWrong : ChangeSpec := { name := "mergeUpTo", fn := fun _ => fun
  | [d1, d2, d3] => { results := [.lit (.bool false)], args := [d1, d2, d3] }
  | _ => none }
def MergeUpToWrongFalsely : Prop := mergeUpToRow.holds Try.pinned (OpenSpec.ofChange mergeUpToWrong)

/-- 'winnowlaw11.MergeTells': WHATEVER THE INPUT: true; the input reads as it did. -/
def mergeTellsSpec : ChangeSpec := { name := "mergeTells", fn := fun _ => fun
  | [d] => { results := [.lit (.bool true)], args := [d] }
  | _ => none }
def mergeTellsRow : OpenClaim := { program := "ytfhojgammfkabaa", sum := "68e8b2e3be11fbd1e750555a0457a8ffea2bda223067cfda20be53c0edc0e43d", func := "winnow/winnowlaw11.MergeTells", spec := "mergeTells", unfollowed := true, recurses := true, apart := false }
def MergeTellsSaid : Prop := mergeTellsRow.holds Try.pinned (OpenSpec.ofChange mergeTellsSpec)

/-- ITS FALSE NEIGHBOUR: 'it returns false'. Refute it at one input. -/
def mergeTellsWrong : ChangeSpec := { name := "mergeTells", fn := fun _ => fun
  | [d] => { results := [.lit (.bool false)], args := [d] }
  | _ => none }
def MergeTellsWrongFalsely : Prop := mergeTellsRow.holds Try.pinned (OpenSpec.ofChange mergeTellsWrong)

/-- 'winnowlaw11.MergeAll': WHATEVER THE INPUT: true; the input reads as it did. -/
def mergeAllSpec : ChangeSpec := { name := "mergeAll", fn := fun _ => fun
  | [d1, d2] => { results := [.lit (.bool true)], args := [d1, d2] }
  | _ => none }
def mergeAllRow : OpenClaim := { program := "ytfhojgammfkabaa", sum := "68e8b2e3be11fbd1e750555a0457a8ffea2bda223067cfda20be53c0edc0e43d", func := "winnow/winnowlaw11.MergeAll", spec := "mergeAll", unfollowed := true, recurses := true, apart := false }
def MergeAllSaid : Prop := mergeAllRow.holds Try.pinned (OpenSpec.ofChange mergeAllSpec)

/-- ITS FALSE NEIGHBOUR: 'it returns false'. Refute it at one input. -/
def mergeAllWrong : ChangeSpec := { name := "mergeAll", fn := fun _ => fun
  | [d1, d2] => { results := [.lit (.bool false)], args := [d1, d2] }
  | _ => none }
def MergeAllWrongFalsely : Prop := mergeAllRow.holds Try.pinned (OpenSpec.ofChange mergeAllWrong)

/-- 'winnowlaw11.MergeBundles': WHATEVER THE INPUT: true; the input reads as it did. -/
def mergeBundlesSpec : ChangeSpec := { name := "mergeBundles", fn := fun _ => fun
  | [d1, d2] => { results := [.lit (.bool true)], args := [d1, d2] }
  | _ => none }
def mergeBundlesRow : OpenClaim := { program := "ytfhojgammfkabaa", sum := "68e8b2e3be11fbd1e750555a0457a8ffea2bda223067cfda20be53c0edc0e43d", func := "winnow/winnowlaw11.MergeBundles", spec := "mergeBundles", unfollowed := true, recurses := true, apart := false }
def MergeBundlesSaid : Prop := mergeBundlesRow.holds Try.pinned (OpenSpec.ofChange mergeBundlesSpec)

/-- ITS FALSE NEIGHBOUR: 'it returns false'. Refute it at one input. -/
def mergeBundlesWrong : ChangeSpec := { name := "mergeBundles", fn := fun _ => fun
  | [d1, d2] => { results := [.lit (.bool false)], args := [d1, d2] }
  | _ => none }
def MergeBundlesWrongFalsely : Prop := mergeBundlesRow.holds Try.pinned (OpenSpec.ofChange mergeBundlesWrong)

/-- 'winnowlaw11.MergeNone': WHATEVER THE INPUT: true; the input reads as it did. -/
def mergeNoneSpec : ChangeSpec := { name := "mergeNone", fn := fun _ => fun
  | [] => { results := [.lit (.bool true)], args := [] }
  | _ => none }
def mergeNoneRow : OpenClaim := { program := "ytfhojgammfkabaa", sum := "68e8b2e3be11fbd1e750555a0457a8ffea2bda223067cfda20be53c0edc0e43d", func := "winnow/winnowlaw11.MergeNone", spec := "mergeNone", unfollowed := true, recurses := true, apart := false }
def MergeNoneSaid : Prop := mergeNoneRow.holds Try.pinned (OpenSpec.ofChange mergeNoneSpec)

/-- ITS FALSE NEIGHBOUR: 'it returns false'. Refute it at one input. -/
def mergeNoneWrong : ChangeSpec := { name := "mergeNone", fn := fun _ => fun
  | [] => { results := [.lit (.bool false)], args := [] }
  | _ => none }
def MergeNoneWrongFalsely : Prop := mergeNoneRow.holds Try.pinned (OpenSpec.ofChange mergeNoneWrong)

/-- 'winnowlaw11.MergeRecords': WHATEVER THE INPUT: true; the input reads as it did. -/
def mergeRecordsSpec : ChangeSpec := { name := "mergeRecords", fn := fun _ => fun
  | [d] => { results := [.lit (.bool true)], args := [d] }
  | _ => none }
def mergeRecordsRow : OpenClaim := { program := "ytfhojgammfkabaa", sum := "68e8b2e3be11fbd1e750555a0457a8ffea2bda223067cfda20be53c0edc0e43d", func := "winnow/winnowlaw11.MergeRecords", spec := "mergeRecords", unfollowed := true, recurses := true, apart := false }
def MergeRecordsSaid : Prop := mergeRecordsRow.holds Try.pinned (OpenSpec.ofChange mergeRecordsSpec)

/-- ITS FALSE NEIGHBOUR: 'it returns false'. Refute it at one input. -/
def mergeRecordsWrong : ChangeSpec := { name := "mergeRecords", fn := fun _ => fun
  | [d] => { results := [.lit (.bool false)], args := [d] }
  | _ => none }
def MergeRecordsWrongFalsely : Prop := mergeRecordsRow.holds Try.pinned (OpenSpec.ofChange mergeRecordsWrong)

/- THE SECOND FORM. 'bulk': how many values and letters a reading holds, each counted each time it is reached (what is shared counts as often as it is met; a slice's spare places count too). A statement '..UptoSaid' is the law's where the arguments, and the package variables that the reading takes, are together of bulk at most 1048576: NARROWER than '..Said'. Prove '..Said' where nothing that the law and all that it calls make is longer than what came in: it says more and counts as full. Else prove '..UptoSaid'. A law counts once. -/
mutual
def uptoBulk {H : Type} : DataW H → Nat
  | .lit (.string bytes) => bytes.length + 1
  | .lit _ => 1
  | .nil => 1
  | .ptr d => uptoBulk d + 1
  | .slice elems spare => uptoBulkAll elems + uptoBulkAll spare + 1
  | .agg parts => uptoBulkAll parts + 1
  | .iface _ d => uptoBulk d + 1
  | .map entries => uptoBulkEntries entries + 1
  | .held _ => 1
def uptoBulkAll {H : Type} : List (DataW H) → Nat
  | [] => 0
  | d :: r => uptoBulk d + uptoBulkAll r
def uptoBulkEntries {H : Type} : List (Lit × DataW H) → Nat
  | [] => 0
  | x :: r => uptoBulkEntry x + uptoBulkEntries r
def uptoBulkEntry {H : Type} : Lit × DataW H → Nat
  | (.string bytes, d) => bytes.length + uptoBulk d + 1
  | (_, d) => uptoBulk d + 1
 end
def uptoSmall : (H : Type) → List (DataW H) → Bool := fun _ ds => decide (uptoBulkAll ds ≤ 1048576)
def OpenSpec.upto (s : _root_.Go.ChangeSpec) : _root_.Go.OpenSpec := { _root_.Go.OpenSpec.ofChange s with cond := some uptoSmall }

/-- 'winnowlaw11.MergeGroups', WHERE WHAT IT READS IS OF BULK AT MOST 1048576: true; the input reads as it did. -/
def mergeGroupsUptoRow : OpenClaim := { program := "ytfhojgammfkabaa", sum := "68e8b2e3be11fbd1e750555a0457a8ffea2bda223067cfda20be53c0edc0e43d", func := "winnow/winnowlaw11.MergeGroups", spec := "mergeGroups", unfollowed := true, recurses := true, apart := false, narrowed := true }
def MergeGroupsUptoSaid : Prop := mergeGroupsUptoRow.holds Try.pinned (OpenSpec.upto mergeGroupsSpec)

/-- 'winnowlaw11.MergeStable', WHERE WHAT IT READS IS OF BULK AT MOST 1048576: true; the input reads as it did. -/
def mergeStableUptoRow : OpenClaim := { program := "ytfhojgammfkabaa", sum := "68e8b2e3be11fbd1e750555a0457a8ffea2bda223067cfda20be53c0edc0e43d", func := "winnow/winnowlaw11.MergeStable", spec := "mergeStable", unfollowed := true, recurses := true, apart := false, narrowed := true }
def MergeStableUptoSaid : Prop := mergeStableUptoRow.holds Try.pinned (OpenSpec.upto mergeStableSpec)

/-- 'winnowlaw11.MergeUpTo', WHERE WHAT IT READS IS OF BULK AT MOST 1048576: true; the input reads as it did. -/
def mergeUpToUptoRow : OpenClaim := { program := "ytfhojgammfkabaa", sum := "68e8b2e3be11fbd1e750555a0457a8ffea2bda223067cfda20be53c0edc0e43d", func := "winnow/winnowlaw11.MergeUpTo", spec := "mergeUpTo", unfollowed := true, recurses := true, apart := false, narrowed := true }
def MergeUpToUptoSaid : Prop := mergeUpToUptoRow.holds Try.pinned (OpenSpec.upto mergeUpToSpec)

/-- 'winnowlaw11.MergeTells', WHERE WHAT IT READS IS OF BULK AT MOST 1048576: true; the input reads as it did. -/
def mergeTellsUptoRow : OpenClaim := { program := "ytfhojgammfkabaa", sum := "68e8b2e3be11fbd1e750555a0457a8ffea2bda223067cfda20be53c0edc0e43d", func := "winnow/winnowlaw11.MergeTells", spec := "mergeTells", unfollowed := true, recurses := true, apart := false, narrowed := true }
def MergeTellsUptoSaid : Prop := mergeTellsUptoRow.holds Try.pinned (OpenSpec.upto mergeTellsSpec)

/-- 'winnowlaw11.MergeAll', WHERE WHAT IT READS IS OF BULK AT MOST 1048576: true; the input reads as it did. -/
def mergeAllUptoRow : OpenClaim := { program := "ytfhojgammfkabaa", sum := "68e8b2e3be11fbd1e750555a0457a8ffea2bda223067cfda20be53c0edc0e43d", func := "winnow/winnowlaw11.MergeAll", spec := "mergeAll", unfollowed := true, recurses := true, apart := false, narrowed := true }
def MergeAllUptoSaid : Prop := mergeAllUptoRow.holds Try.pinned (OpenSpec.upto mergeAllSpec)

/-- 'winnowlaw11.MergeBundles', WHERE WHAT IT READS IS OF BULK AT MOST 1048576: true; the input reads as it did. -/
def mergeBundlesUptoRow : OpenClaim := { program := "ytfhojgammfkabaa", sum := "68e8b2e3be11fbd1e750555a0457a8ffea2bda223067cfda20be53c0edc0e43d", func := "winnow/winnowlaw11.MergeBundles", spec := "mergeBundles", unfollowed := true, recurses := true, apart := false, narrowed := true }
def MergeBundlesUptoSaid : Prop := mergeBundlesUptoRow.holds Try.pinned (OpenSpec.upto mergeBundlesSpec)

/-- 'winnowlaw11.MergeNone', WHERE WHAT IT READS IS OF BULK AT MOST 1048576: true; the input reads as it did. -/
def mergeNoneUptoRow : OpenClaim := { program := "ytfhojgammfkabaa", sum := "68e8b2e3be11fbd1e750555a0457a8ffea2bda223067cfda20be53c0edc0e43d", func := "winnow/winnowlaw11.MergeNone", spec := "mergeNone", unfollowed := true, recurses := true, apart := false, narrowed := true }
def MergeNoneUptoSaid : Prop := mergeNoneUptoRow.holds Try.pinned (OpenSpec.upto mergeNoneSpec)

/-- 'winnowlaw11.MergeRecords', WHERE WHAT IT READS IS OF BULK AT MOST 1048576: true; the input reads as it did. -/
def mergeRecordsUptoRow : OpenClaim := { program := "ytfhojgammfkabaa", sum := "68e8b2e3be11fbd1e750555a0457a8ffea2bda223067cfda20be53c0edc0e43d", func := "winnow/winnowlaw11.MergeRecords", spec := "mergeRecords", unfollowed := true, recurses := true, apart := false, narrowed := true }
def MergeRecordsUptoSaid : Prop := mergeRecordsUptoRow.holds Try.pinned (OpenSpec.upto mergeRecordsSpec)

end Rows
end Go.Proofs.Ytfhojgammfkabaa
