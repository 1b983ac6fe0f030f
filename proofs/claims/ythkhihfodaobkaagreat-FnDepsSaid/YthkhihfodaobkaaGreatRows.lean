/-
  No cell of these rows narrows 'for every input' (looked for: loops, veiled, ifaces, maps, wideKeys, modest, calm, conditions, laid).
  DERIVED. THE GIVEN ROWS OF THIS SEAT. 12 by the template 'for every input the law returns true; each argument reads behind the call as it read before'; 0 by the template 'total and deterministic' (their statements: YthkhihfodaobkaaGreatTotals.lean).
  GIVEN WITH THE SEED: the statements are not yours to turn. If you find one false, say at which input.
  Laid BY PROGRAM, IN A SANDBOX (cutbox-rows.mjs): the forced cells as the released guide's own fill.sh prints them over the translation e4b6cc547dcaeb39… (all of the seat's roots in one cut). By AI agents, Wed Nov 11 2026. No macro, syntax, notation, axiom, sorry.
-/
import Derived.Test.YthkhihfodaobkaaGreatChecked
import GoSem.Claim
import GoSem.ClaimJoined
import GoSem.ClaimMapViews
import Derived.JoinedTies
import Derived.KernelRfl
namespace Go.Proofs.YthkhihfodaobkaaGreat
/- THE CELL 'sum', in the pinned program and in every row, IS THE sha256 OF THE DUMP (.gsa) THAT YthkhihfodaobkaaGreatProg.lean LOADS. Nothing in Lean hashes anything: it is a label: what it is worth is what the hold of that sum in a sandbox is worth. -/
noncomputable def Tryz.pinned : Pinned := { name := "ythkhihfodaobkaagreat", sum := "e4b6cc547dcaeb3988b76f1db7f742606d13d03bccc2ad22a5cbc09af4d6e7b9", checked := Tryz.checked }
namespace Rows
def none {H : Type} : Left H := { results := [], args := [] }

/-- 'laws.FnSettled': WHATEVER THE INPUT: true; the input reads as it did. -/
def fnSettledSpec : ChangeSpec := { name := "fnSettled", fn := fun _ => fun
  | [d] => { results := [.lit (.bool true)], args := [d] }
  | _ => none }
def fnSettledRow : OpenClaim := { program := "ythkhihfodaobkaagreat", sum := "e4b6cc547dcaeb3988b76f1db7f742606d13d03bccc2ad22a5cbc09af4d6e7b9", func := "loop.example/g00235/laws.FnSettled", spec := "fnSettled", recurses := true, apart := false }
def FnSettledSaid : Prop := fnSettledRow.holds Tryz.pinned (OpenSpec.ofChange fnSettledSpec)

/-- ITS FALSE NEIGHBOUR: 'it returns false'. Refute it at one input. -/
def fnSettledWrong : ChangeSpec := { name := "fnSettled", fn := fun _ => fun
  | [d] => { results := [.lit (.bool false)], args := [d] }
  | _ => none }
def FnSettledWrongFalsely : Prop := fnSettledRow.holds Tryz.pinned (OpenSpec.ofChange fnSettledWrong)

/-- 'laws.FnSameDisks': WHATEVER THE INPUT: true; the input reads as it did. -/
def fnSameDisksSpec : ChangeSpec := { name := "fnSameDisks", fn := fun _ => fun
  | [d] => { results := [.lit (.bool true)], args := [d] }
  | _ => none }
def fnSameDisksRow : OpenClaim := { program := "ythkhihfodaobkaagreat", sum := "e4b6cc547dcaeb3988b76f1db7f742606d13d03bccc2ad22a5cbc09af4d6e7b9", func := "loop.example/g00235/laws.FnSameDisks", spec := "fnSameDisks", unfollowed := true, recurses := true, apart := false }
def FnSameDisksSaid : Prop := fnSameDisksRow.holds Tryz.pinned (OpenSpec.ofChange fnSameDisksSpec)

/-- ITS FALSE NEIGHBOUR: 'it returns false'. Refute it at one input. -/
def fnSameDisksWrong : ChangeSpec := { name := "fnSameDisks", fn := fun _ => fun
  | [d] => { results := [.lit (.bool false)], args := [d] }
  | _ => none }
def FnSameDisksWrongFalsely : Prop := fnSameDisksRow.holds Tryz.pinned (OpenSpec.ofChange fnSameDisksWrong)

/-- 'laws.FnDepsAt': WHATEVER THE INPUT: true; the input reads as it did. -/
def fnDepsAtSpec : ChangeSpec := { name := "fnDepsAt", fn := fun _ => fun
  | [d] => { results := [.lit (.bool true)], args := [d] }
  | _ => none }
def fnDepsAtRow : OpenClaim := { program := "ythkhihfodaobkaagreat", sum := "e4b6cc547dcaeb3988b76f1db7f742606d13d03bccc2ad22a5cbc09af4d6e7b9", func := "loop.example/g00235/laws.FnDepsAt", spec := "fnDepsAt", unfollowed := true, recurses := true, apart := false }
def FnDepsAtSaid : Prop := fnDepsAtRow.holds Tryz.pinned (OpenSpec.ofChange fnDepsAtSpec)

/-- ITS FALSE NEIGHBOUR: 'it returns false'. Refute it at one input. -/
def fnDepsAtWrong : ChangeSpec := { name := "fnDepsAt", fn := fun _ => fun
  | [d] => { results := [.lit (.bool false)], args := [d] }
  | _ => none }
def FnDepsAtWrongFalsely : Prop := fnDepsAtRow.holds Tryz.pinned (OpenSpec.ofChange fnDepsAtWrong)

/-- 'laws.FnMems': WHATEVER THE INPUT: true; the input reads as it did. -/
def fnMemsSpec : ChangeSpec := { name := "fnMems", fn := fun _ => fun
  | [d] => { results := [.lit (.bool true)], args := [d] }
  | _ => none }
def fnMemsRow : OpenClaim := { program := "ythkhihfodaobkaagreat", sum := "e4b6cc547dcaeb3988b76f1db7f742606d13d03bccc2ad22a5cbc09af4d6e7b9", func := "loop.example/g00235/laws.FnMems", spec := "fnMems", unfollowed := true, recurses := true, apart := false }
def FnMemsSaid : Prop := fnMemsRow.holds Tryz.pinned (OpenSpec.ofChange fnMemsSpec)

/-- ITS FALSE NEIGHBOUR: 'it returns false'. Refute it at one input. -/
def fnMemsWrong : ChangeSpec := { name := "fnMems", fn := fun _ => fun
  | [d] => { results := [.lit (.bool false)], args := [d] }
  | _ => none }
def FnMemsWrongFalsely : Prop := fnMemsRow.holds Tryz.pinned (OpenSpec.ofChange fnMemsWrong)

/-- 'laws.FnAnyDevice': WHATEVER THE INPUT: true; the input reads as it did. -/
def fnAnyDeviceSpec : ChangeSpec := { name := "fnAnyDevice", fn := fun _ => fun
  | [d] => { results := [.lit (.bool true)], args := [d] }
  | _ => none }
def fnAnyDeviceRow : OpenClaim := { program := "ythkhihfodaobkaagreat", sum := "e4b6cc547dcaeb3988b76f1db7f742606d13d03bccc2ad22a5cbc09af4d6e7b9", func := "loop.example/g00235/laws.FnAnyDevice", spec := "fnAnyDevice", unfollowed := true, recurses := true, apart := false }
def FnAnyDeviceSaid : Prop := fnAnyDeviceRow.holds Tryz.pinned (OpenSpec.ofChange fnAnyDeviceSpec)

/-- ITS FALSE NEIGHBOUR: 'it returns false'. Refute it at one input. -/
def fnAnyDeviceWrong : ChangeSpec := { name := "fnAnyDevice", fn := fun _ => fun
  | [d] => { results := [.lit (.bool false)], args := [d] }
  | _ => none }
def FnAnyDeviceWrongFalsely : Prop := fnAnyDeviceRow.holds Tryz.pinned (OpenSpec.ofChange fnAnyDeviceWrong)

/-- 'laws.FnLinksLost': WHATEVER THE INPUT: true; the input reads as it did. -/
def fnLinksLostSpec : ChangeSpec := { name := "fnLinksLost", fn := fun _ => fun
  | [d] => { results := [.lit (.bool true)], args := [d] }
  | _ => none }
def fnLinksLostRow : OpenClaim := { program := "ythkhihfodaobkaagreat", sum := "e4b6cc547dcaeb3988b76f1db7f742606d13d03bccc2ad22a5cbc09af4d6e7b9", func := "loop.example/g00235/laws.FnLinksLost", spec := "fnLinksLost", unfollowed := true, recurses := true, apart := false }
def FnLinksLostSaid : Prop := fnLinksLostRow.holds Tryz.pinned (OpenSpec.ofChange fnLinksLostSpec)

/-- ITS FALSE NEIGHBOUR: 'it returns false'. Refute it at one input. -/
def fnLinksLostWrong : ChangeSpec := { name := "fnLinksLost", fn := fun _ => fun
  | [d] => { results := [.lit (.bool false)], args := [d] }
  | _ => none }
def FnLinksLostWrongFalsely : Prop := fnLinksLostRow.holds Tryz.pinned (OpenSpec.ofChange fnLinksLostWrong)

/-- 'laws.FnPlainImages': WHATEVER THE INPUT: true; the input reads as it did. -/
def fnPlainImagesSpec : ChangeSpec := { name := "fnPlainImages", fn := fun _ => fun
  | [d] => { results := [.lit (.bool true)], args := [d] }
  | _ => none }
def fnPlainImagesRow : OpenClaim := { program := "ythkhihfodaobkaagreat", sum := "e4b6cc547dcaeb3988b76f1db7f742606d13d03bccc2ad22a5cbc09af4d6e7b9", func := "loop.example/g00235/laws.FnPlainImages", spec := "fnPlainImages", unfollowed := true, recurses := true, apart := false }
def FnPlainImagesSaid : Prop := fnPlainImagesRow.holds Tryz.pinned (OpenSpec.ofChange fnPlainImagesSpec)

/-- ITS FALSE NEIGHBOUR: 'it returns false'. Refute it at one input. -/
def fnPlainImagesWrong : ChangeSpec := { name := "fnPlainImages", fn := fun _ => fun
  | [d] => { results := [.lit (.bool false)], args := [d] }
  | _ => none }
def FnPlainImagesWrongFalsely : Prop := fnPlainImagesRow.holds Tryz.pinned (OpenSpec.ofChange fnPlainImagesWrong)

/-- 'laws.FnDeps': WHATEVER THE INPUT: true; the input reads as it did. -/
def fnDepsSpec : ChangeSpec := { name := "fnDeps", fn := fun _ => fun
  | [d] => { results := [.lit (.bool true)], args := [d] }
  | _ => none }
def fnDepsRow : OpenClaim := { program := "ythkhihfodaobkaagreat", sum := "e4b6cc547dcaeb3988b76f1db7f742606d13d03bccc2ad22a5cbc09af4d6e7b9", func := "loop.example/g00235/laws.FnDeps", spec := "fnDeps", unfollowed := true, recurses := true, apart := false }
def FnDepsSaid : Prop := fnDepsRow.holds Tryz.pinned (OpenSpec.ofChange fnDepsSpec)

/-- ITS FALSE NEIGHBOUR: 'it returns false'. Refute it at one input. -/
def fnDepsWrong : ChangeSpec := { name := "fnDeps", fn := fun _ => fun
  | [d] => { results := [.lit (.bool false)], args := [d] }
  | _ => none }
def FnDepsWrongFalsely : Prop := fnDepsRow.holds Tryz.pinned (OpenSpec.ofChange fnDepsWrong)

/-- 'laws.FnDisks': WHATEVER THE INPUT: true; the input reads as it did. -/
def fnDisksSpec : ChangeSpec := { name := "fnDisks", fn := fun _ => fun
  | [d] => { results := [.lit (.bool true)], args := [d] }
  | _ => none }
def fnDisksRow : OpenClaim := { program := "ythkhihfodaobkaagreat", sum := "e4b6cc547dcaeb3988b76f1db7f742606d13d03bccc2ad22a5cbc09af4d6e7b9", func := "loop.example/g00235/laws.FnDisks", spec := "fnDisks", unfollowed := true, recurses := true, apart := false }
def FnDisksSaid : Prop := fnDisksRow.holds Tryz.pinned (OpenSpec.ofChange fnDisksSpec)

/-- ITS FALSE NEIGHBOUR: 'it returns false'. Refute it at one input. -/
def fnDisksWrong : ChangeSpec := { name := "fnDisks", fn := fun _ => fun
  | [d] => { results := [.lit (.bool false)], args := [d] }
  | _ => none }
def FnDisksWrongFalsely : Prop := fnDisksRow.holds Tryz.pinned (OpenSpec.ofChange fnDisksWrong)

/-- 'laws.FnWriteBacks': WHATEVER THE INPUT: true; the input reads as it did. -/
def fnWriteBacksSpec : ChangeSpec := { name := "fnWriteBacks", fn := fun _ => fun
  | [d] => { results := [.lit (.bool true)], args := [d] }
  | _ => none }
def fnWriteBacksRow : OpenClaim := { program := "ythkhihfodaobkaagreat", sum := "e4b6cc547dcaeb3988b76f1db7f742606d13d03bccc2ad22a5cbc09af4d6e7b9", func := "loop.example/g00235/laws.FnWriteBacks", spec := "fnWriteBacks", unfollowed := true, recurses := true, apart := false }
def FnWriteBacksSaid : Prop := fnWriteBacksRow.holds Tryz.pinned (OpenSpec.ofChange fnWriteBacksSpec)

/-- ITS FALSE NEIGHBOUR: 'it returns false'. Refute it at one input. -/
def fnWriteBacksWrong : ChangeSpec := { name := "fnWriteBacks", fn := fun _ => fun
  | [d] => { results := [.lit (.bool false)], args := [d] }
  | _ => none }
def FnWriteBacksWrongFalsely : Prop := fnWriteBacksRow.holds Tryz.pinned (OpenSpec.ofChange fnWriteBacksWrong)

/-- 'laws.FnMounts': WHATEVER THE INPUT: true; the input reads as it did. -/
def fnMountsSpec : ChangeSpec := { name := "fnMounts", fn := fun _ => fun
  | [d] => { results := [.lit (.bool true)], args := [d] }
  | _ => none }
def fnMountsRow : OpenClaim := { program := "ythkhihfodaobkaagreat", sum := "e4b6cc547dcaeb3988b76f1db7f742606d13d03bccc2ad22a5cbc09af4d6e7b9", func := "loop.example/g00235/laws.FnMounts", spec := "fnMounts", unfollowed := true, recurses := true, apart := false }
def FnMountsSaid : Prop := fnMountsRow.holds Tryz.pinned (OpenSpec.ofChange fnMountsSpec)

/-- ITS FALSE NEIGHBOUR: 'it returns false'. Refute it at one input. -/
def fnMountsWrong : ChangeSpec := { name := "fnMounts", fn := fun _ => fun
  | [d] => { results := [.lit (.bool false)], args := [d] }
  | _ => none }
def FnMountsWrongFalsely : Prop := fnMountsRow.holds Tryz.pinned (OpenSpec.ofChange fnMountsWrong)

/-- 'laws.FnDone': WHATEVER THE INPUT: true; the input reads as it did. -/
def fnDoneSpec : ChangeSpec := { name := "fnDone", fn := fun _ => fun
  | [d] => { results := [.lit (.bool true)], args := [d] }
  | _ => none }
def fnDoneRow : OpenClaim := { program := "ythkhihfodaobkaagreat", sum := "e4b6cc547dcaeb3988b76f1db7f742606d13d03bccc2ad22a5cbc09af4d6e7b9", func := "loop.example/g00235/laws.FnDone", spec := "fnDone", unfollowed := true, recurses := true, apart := false }
def FnDoneSaid : Prop := fnDoneRow.holds Tryz.pinned (OpenSpec.ofChange fnDoneSpec)

/-- ITS FALSE NEIGHBOUR: 'it returns false'. Refute it at one input. -/
def fnDoneWrong : ChangeSpec := { name := "fnDone", fn := fun _ => fun
  | [d] => { results := [.lit (.bool false)], args := [d] }
  | _ => none }
def FnDoneWrongFalsely : Prop := fnDoneRow.holds Tryz.pinned (OpenSpec.ofChange fnDoneWrong)

/- THE SECOND FORM. 'bulk': how many values and letters a reading holds, each counted each time it is reached (what is shared counts as often as it is met; a slice's spare places count too). A statement '..UptoSaid' is the law's where the arguments, and the package variables that the reading takes, are together of bulk at most 1048576: NARROWER than '..Said'. Prove '..Said' where nothing that the law and all that it calls make is longer than what came in: it says more and counts as full. Else prove '..UptoSaid'. A law counts once. -/
mutual
def uptoBulk {H : Type} : DataW H → Nat
  | .lit (.string bytes) => bytes.length + 1
  | .lit _ => 1
  | .nil => 1
  | .ptr d => uptoBulk d + 1
  | .slice elems spare => uptoBulkAll elems + uptoBulkAll spare + 1
  | .agg parts => uptoBulkAll parts + 1
  | .iface _ d => uptoBulk d + 1
  | .map entries => uptoBulkEntries entries + 1
  | .held _ => 1
def uptoBulkAll {H : Type} : List (DataW H) → Nat
  | [] => 0
  | d :: r => uptoBulk d + uptoBulkAll r
def uptoBulkEntries {H : Type} : List (Lit × DataW H) → Nat
  | [] => 0
  | x :: r => uptoBulkEntry x + uptoBulkEntries r
def uptoBulkEntry {H : Type} : Lit × DataW H → Nat
  | (.string bytes, d) => bytes.length + uptoBulk d + 1
  | (_, d) => uptoBulk d + 1
 end
def uptoSmall : (H : Type) → List (DataW H) → Bool := fun _ ds => decide (uptoBulkAll ds ≤ 1048576)
def OpenSpec.upto (s : _root_.Go.ChangeSpec) : _root_.Go.OpenSpec := { _root_.Go.OpenSpec.ofChange s with cond := some uptoSmall }

/-- 'laws.FnSettled', WHERE WHAT IT READS IS OF BULK AT MOST 1048576: true; the input reads as it did. -/
def fnSettledUptoRow : OpenClaim := { program := "ythkhihfodaobkaagreat", sum := "e4b6cc547dcaeb3988b76f1db7f742606d13d03bccc2ad22a5cbc09af4d6e7b9", func := "loop.example/g00235/laws.FnSettled", spec := "fnSettled", recurses := true, apart := false, narrowed := true }
def FnSettledUptoSaid : Prop := fnSettledUptoRow.holds Tryz.pinned (OpenSpec.upto fnSettledSpec)

/-- 'laws.FnSameDisks', WHERE WHAT IT READS IS OF BULK AT MOST 1048576: true; the input reads as it did. -/
def fnSameDisksUptoRow : OpenClaim := { program := "ythkhihfodaobkaagreat", sum := "e4b6cc547dcaeb3988b76f1db7f742606d13d03bccc2ad22a5cbc09af4d6e7b9", func := "loop.example/g00235/laws.FnSameDisks", spec := "fnSameDisks", unfollowed := true, recurses := true, apart := false, narrowed := true }
def FnSameDisksUptoSaid : Prop := fnSameDisksUptoRow.holds Tryz.pinned (OpenSpec.upto fnSameDisksSpec)

/-- 'laws.FnDepsAt', WHERE WHAT IT READS IS OF BULK AT MOST 1048576: true; the input reads as it did. -/
def fnDepsAtUptoRow : OpenClaim := { program := "ythkhihfodaobkaagreat", sum := "e4b6cc547dcaeb3988b76f1db7f742606d13d03bccc2ad22a5cbc09af4d6e7b9", func := "loop.example/g00235/laws.FnDepsAt", spec := "fnDepsAt", unfollowed := true, recurses := true, apart := false, narrowed := true }
def FnDepsAtUptoSaid : Prop := fnDepsAtUptoRow.holds Tryz.pinned (OpenSpec.upto fnDepsAtSpec)

/-- 'laws.FnMems', WHERE WHAT IT READS IS OF BULK AT MOST 1048576: true; the input reads as it did. -/
def fnMemsUptoRow : OpenClaim := { program := "ythkhihfodaobkaagreat", sum := "e4b6cc547dcaeb3988b76f1db7f742606d13d03bccc2ad22a5cbc09af4d6e7b9", func := "loop.example/g00235/laws.FnMems", spec := "fnMems", unfollowed := true, recurses := true, apart := false, narrowed := true }
def FnMemsUptoSaid : Prop := fnMemsUptoRow.holds Tryz.pinned (OpenSpec.upto fnMemsSpec)

/-- 'laws.FnAnyDevice', WHERE WHAT IT READS IS OF BULK AT MOST 1048576: true; the input reads as it did. -/
def fnAnyDeviceUptoRow : OpenClaim := { program := "ythkhihfodaobkaagreat", sum := "e4b6cc547dcaeb3988b76f1db7f742606d13d03bccc2ad22a5cbc09af4d6e7b9", func := "loop.example/g00235/laws.FnAnyDevice", spec := "fnAnyDevice", unfollowed := true, recurses := true, apart := false, narrowed := true }
def FnAnyDeviceUptoSaid : Prop := fnAnyDeviceUptoRow.holds Tryz.pinned (OpenSpec.upto fnAnyDeviceSpec)

/-- 'laws.FnLinksLost', WHERE WHAT IT READS IS OF BULK AT MOST 1048576: true; the input reads as it did. -/
def fnLinksLostUptoRow : OpenClaim := { program := "ythkhihfodaobkaagreat", sum := "e4b6cc547dcaeb3988b76f1db7f742606d13d03bccc2ad22a5cbc09af4d6e7b9", func := "loop.example/g00235/laws.FnLinksLost", spec := "fnLinksLost", unfollowed := true, recurses := true, apart := false, narrowed := true }
def FnLinksLostUptoSaid : Prop := fnLinksLostUptoRow.holds Tryz.pinned (OpenSpec.upto fnLinksLostSpec)

/-- 'laws.FnPlainImages', WHERE WHAT IT READS IS OF BULK AT MOST 1048576: true; the input reads as it did. -/
def fnPlainImagesUptoRow : OpenClaim := { program := "ythkhihfodaobkaagreat", sum := "e4b6cc547dcaeb3988b76f1db7f742606d13d03bccc2ad22a5cbc09af4d6e7b9", func := "loop.example/g00235/laws.FnPlainImages", spec := "fnPlainImages", unfollowed := true, recurses := true, apart := false, narrowed := true }
def FnPlainImagesUptoSaid : Prop := fnPlainImagesUptoRow.holds Tryz.pinned (OpenSpec.upto fnPlainImagesSpec)

/-- 'laws.FnDeps', WHERE WHAT IT READS IS OF BULK AT MOST 1048576: true; the input reads as it did. -/
def fnDepsUptoRow : OpenClaim := { program := "ythkhihfodaobkaagreat", sum := "e4b6cc547dcaeb3988b76f1db7f742606d13d03bccc2ad22a5cbc09af4d6e7b9", func := "loop.example/g00235/laws.FnDeps", spec := "fnDeps", unfollowed := true, recurses := true, apart := false, narrowed := true }
def FnDepsUptoSaid : Prop := fnDepsUptoRow.holds Tryz.pinned (OpenSpec.upto fnDepsSpec)

/-- 'laws.FnDisks', WHERE WHAT IT READS IS OF BULK AT MOST 1048576: true; the input reads as it did. -/
def fnDisksUptoRow : OpenClaim := { program := "ythkhihfodaobkaagreat", sum := "e4b6cc547dcaeb3988b76f1db7f742606d13d03bccc2ad22a5cbc09af4d6e7b9", func := "loop.example/g00235/laws.FnDisks", spec := "fnDisks", unfollowed := true, recurses := true, apart := false, narrowed := true }
def FnDisksUptoSaid : Prop := fnDisksUptoRow.holds Tryz.pinned (OpenSpec.upto fnDisksSpec)

/-- 'laws.FnWriteBacks', WHERE WHAT IT READS IS OF BULK AT MOST 1048576: true; the input reads as it did. -/
def fnWriteBacksUptoRow : OpenClaim := { program := "ythkhihfodaobkaagreat", sum := "e4b6cc547dcaeb3988b76f1db7f742606d13d03bccc2ad22a5cbc09af4d6e7b9", func := "loop.example/g00235/laws.FnWriteBacks", spec := "fnWriteBacks", unfollowed := true, recurses := true, apart := false, narrowed := true }
def FnWriteBacksUptoSaid : Prop := fnWriteBacksUptoRow.holds Tryz.pinned (OpenSpec.upto fnWriteBacksSpec)

/-- 'laws.FnMounts', WHERE WHAT IT READS IS OF BULK AT MOST 1048576: true; the input reads as it did. -/
def fnMountsUptoRow : OpenClaim := { program := "ythkhihfodaobkaagreat", sum := "e4b6cc547dcaeb3988b76f1db7f742606d13d03bccc2ad22a5cbc09af4d6e7b9", func := "loop.example/g00235/laws.FnMounts", spec := "fnMounts", unfollowed := true, recurses := true, apart := false, narrowed := true }
def FnMountsUptoSaid : Prop := fnMountsUptoRow.holds Tryz.pinned (OpenSpec.upto fnMountsSpec)

/-- 'laws.FnDone', WHERE WHAT IT READS IS OF BULK AT MOST 1048576: true; the input reads as it did. -/
def fnDoneUptoRow : OpenClaim := { program := "ythkhihfodaobkaagreat", sum := "e4b6cc547dcaeb3988b76f1db7f742606d13d03bccc2ad22a5cbc09af4d6e7b9", func := "loop.example/g00235/laws.FnDone", spec := "fnDone", unfollowed := true, recurses := true, apart := false, narrowed := true }
def FnDoneUptoSaid : Prop := fnDoneUptoRow.holds Tryz.pinned (OpenSpec.upto fnDoneSpec)

end Rows
end Go.Proofs.YthkhihfodaobkaaGreat
