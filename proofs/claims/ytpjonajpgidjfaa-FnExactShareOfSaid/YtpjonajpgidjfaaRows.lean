/-
  No cell of these rows narrows 'for every input' (looked for: loops, veiled, ifaces, maps, wideKeys, modest, calm, conditions, laid).
  DERIVED. THE GIVEN ROWS OF THIS SEAT. 11 by the template 'for every input the law returns true; each argument reads behind the call as it read before'; 0 by the template 'total and deterministic' (their statements: YtpjonajpgidjfaaTotals.lean).
  GIVEN WITH THE SEED: the statements are not yours to turn. If you find one false, say at which input.
  Laid BY PROGRAM, IN A SANDBOX (cutbox-rows.mjs): the forced cells as the released guide's own fill.sh prints them over the translation 06b96fe3088009f9… (all of the seat's roots in one cut). By AI agents, Wed Nov 11 2026. No macro, syntax, notation, axiom, sorry.
-/
import Derived.Test.YtpjonajpgidjfaaChecked
import GoSem.Claim
import GoSem.ClaimJoined
import GoSem.ClaimMapViews
import Derived.JoinedTies
import Derived.KernelRfl
namespace Go.Proofs.Ytpjonajpgidjfaa
/- THE CELL 'sum', in the pinned program and in every row, IS THE sha256 OF THE DUMP (.gsa) THAT YtpjonajpgidjfaaProg.lean LOADS. Nothing in Lean hashes anything: it is a label: what it is worth is what the hold of that sum in a sandbox is worth. -/
noncomputable def Try.pinned : Pinned := { name := "ytpjonajpgidjfaa", sum := "06b96fe3088009f96ecbafbbbec473dbf07535ba96aea50f237d28999efa6920", checked := Try.checked }
namespace Rows
def none {H : Type} : Left H := { results := [], args := [] }

/-- 'laws.FnExactValidPicture': WHATEVER THE INPUT: true; the input reads as it did. -/
def fnExactValidPictureSpec : ChangeSpec := { name := "fnExactValidPicture", fn := fun _ => fun
  | [d] => { results := [.lit (.bool true)], args := [d] }
  | _ => none }
def fnExactValidPictureRow : OpenClaim := { program := "ytpjonajpgidjfaa", sum := "06b96fe3088009f96ecbafbbbec473dbf07535ba96aea50f237d28999efa6920", func := "loop.example/g01308/laws.FnExactValidPicture", spec := "fnExactValidPicture", unfollowed := true, recurses := true, apart := false }
def FnExactValidPictureSaid : Prop := fnExactValidPictureRow.holds Try.pinned (OpenSpec.ofChange fnExactValidPictureSpec)

/-- ITS FALSE NEIGHBOUR: 'it returns false'. Refute it at one input. -/
def fnExactValidPictureWrong : ChangeSpec := { name := "fnExactValidPicture", fn := fun _ => fun
  | [d] => { results := [.lit (.bool false)], args := [d] }
  | _ => none }
def FnExactValidPictureWrongFalsely : Prop := fnExactValidPictureRow.holds Try.pinned (OpenSpec.ofChange fnExactValidPictureWrong)

/-- 'laws.FnExactSamePicture': WHATEVER THE INPUT: true; the input reads as it did. -/
def fnExactSamePictureSpec : ChangeSpec := { name := "fnExactSamePicture", fn := fun _ => fun
  | [d1, d2] => { results := [.lit (.bool true)], args := [d1, d2] }
  | _ => none }
def fnExactSamePictureRow : OpenClaim := { program := "ytpjonajpgidjfaa", sum := "06b96fe3088009f96ecbafbbbec473dbf07535ba96aea50f237d28999efa6920", func := "loop.example/g01308/laws.FnExactSamePicture", spec := "fnExactSamePicture", inPlace := ["math.Float32bits", "math.Float64bits"], unfollowed := true, recurses := true, apart := false }
def FnExactSamePictureSaid : Prop := fnExactSamePictureRow.holds Try.pinned (OpenSpec.ofChange fnExactSamePictureSpec)

/-- ITS FALSE NEIGHBOUR: 'it returns false'. Refute it at one input. -/
def fnExactSamePictureWrong : ChangeSpec := { name := "fnExactSamePicture", fn := fun _ => fun
  | [d1, d2] => { results := [.lit (.bool false)], args := [d1, d2] }
  | _ => none }
def FnExactSamePictureWrongFalsely : Prop := fnExactSamePictureRow.holds Try.pinned (OpenSpec.ofChange fnExactSamePictureWrong)

/-- 'laws.FnExactRangeOfPicture': WHATEVER THE INPUT: true; the input reads as it did. -/
def fnExactRangeOfPictureSpec : ChangeSpec := { name := "fnExactRangeOfPicture", fn := fun _ => fun
  | [d] => { results := [.lit (.bool true)], args := [d] }
  | _ => none }
def fnExactRangeOfPictureRow : OpenClaim := { program := "ytpjonajpgidjfaa", sum := "06b96fe3088009f96ecbafbbbec473dbf07535ba96aea50f237d28999efa6920", func := "loop.example/g01308/laws.FnExactRangeOfPicture", spec := "fnExactRangeOfPicture", unfollowed := true, recurses := true, apart := false }
def FnExactRangeOfPictureSaid : Prop := fnExactRangeOfPictureRow.holds Try.pinned (OpenSpec.ofChange fnExactRangeOfPictureSpec)

/-- ITS FALSE NEIGHBOUR: 'it returns false'. Refute it at one input. -/
def fnExactRangeOfPictureWrong : ChangeSpec := { name := "fnExactRangeOfPicture", fn := fun _ => fun
  | [d] => { results := [.lit (.bool false)], args := [d] }
  | _ => none }
def FnExactRangeOfPictureWrongFalsely : Prop := fnExactRangeOfPictureRow.holds Try.pinned (OpenSpec.ofChange fnExactRangeOfPictureWrong)

/-- 'laws.FnExactMeanLight': WHATEVER THE INPUT: true; the input reads as it did. -/
def fnExactMeanLightSpec : ChangeSpec := { name := "fnExactMeanLight", fn := fun _ => fun
  | [d] => { results := [.lit (.bool true)], args := [d] }
  | _ => none }
def fnExactMeanLightRow : OpenClaim := { program := "ytpjonajpgidjfaa", sum := "06b96fe3088009f96ecbafbbbec473dbf07535ba96aea50f237d28999efa6920", func := "loop.example/g01308/laws.FnExactMeanLight", spec := "fnExactMeanLight", unfollowed := true, recurses := true, apart := false }
def FnExactMeanLightSaid : Prop := fnExactMeanLightRow.holds Try.pinned (OpenSpec.ofChange fnExactMeanLightSpec)

/-- ITS FALSE NEIGHBOUR: 'it returns false'. Refute it at one input. -/
def fnExactMeanLightWrong : ChangeSpec := { name := "fnExactMeanLight", fn := fun _ => fun
  | [d] => { results := [.lit (.bool false)], args := [d] }
  | _ => none }
def FnExactMeanLightWrongFalsely : Prop := fnExactMeanLightRow.holds Try.pinned (OpenSpec.ofChange fnExactMeanLightWrong)

/-- 'laws.FnExactPlainPicture': WHATEVER THE INPUT: true; the input reads as it did. -/
def fnExactPlainPictureSpec : ChangeSpec := { name := "fnExactPlainPicture", fn := fun _ => fun
  | [d1, d2, d3] => { results := [.lit (.bool true)], args := [d1, d2, d3] }
  | _ => none }
def fnExactPlainPictureRow : OpenClaim := { program := "ytpjonajpgidjfaa", sum := "06b96fe3088009f96ecbafbbbec473dbf07535ba96aea50f237d28999efa6920", func := "loop.example/g01308/laws.FnExactPlainPicture", spec := "fnExactPlainPicture", unfollowed := true, recurses := true, apart := false }
def FnExactPlainPictureSaid : Prop := fnExactPlainPictureRow.holds Try.pinned (OpenSpec.ofChange fnExactPlainPictureSpec)

/-- ITS FALSE NEIGHBOUR: 'it returns false'. Refute it at one input. -/
def fnExactPlainPictureWrong : ChangeSpec := { name := "fnExactPlainPicture", fn := fun _ => fun
  | [d1, d2, d3] => { results := [.lit (.bool false)], args := [d1, d2, d3] }
  | _ => none }
def FnExactPlainPictureWrongFalsely : Prop := fnExactPlainPictureRow.holds Try.pinned (OpenSpec.ofChange fnExactPlainPictureWrong)

/-- 'laws.FnExactRampPicture': WHATEVER THE INPUT: true; the input reads as it did. -/
def fnExactRampPictureSpec : ChangeSpec := { name := "fnExactRampPicture", fn := fun _ => fun
  | [d1, d2, d3, d4] => { results := [.lit (.bool true)], args := [d1, d2, d3, d4] }
  | _ => none }
def fnExactRampPictureRow : OpenClaim := { program := "ytpjonajpgidjfaa", sum := "06b96fe3088009f96ecbafbbbec473dbf07535ba96aea50f237d28999efa6920", func := "loop.example/g01308/laws.FnExactRampPicture", spec := "fnExactRampPicture", unfollowed := true, recurses := true, apart := false }
def FnExactRampPictureSaid : Prop := fnExactRampPictureRow.holds Try.pinned (OpenSpec.ofChange fnExactRampPictureSpec)

/-- ITS FALSE NEIGHBOUR: 'it returns false'. Refute it at one input. -/
def fnExactRampPictureWrong : ChangeSpec := { name := "fnExactRampPicture", fn := fun _ => fun
  | [d1, d2, d3, d4] => { results := [.lit (.bool false)], args := [d1, d2, d3, d4] }
  | _ => none }
def FnExactRampPictureWrongFalsely : Prop := fnExactRampPictureRow.holds Try.pinned (OpenSpec.ofChange fnExactRampPictureWrong)

/-- 'laws.FnExactScalePicture': WHATEVER THE INPUT: true; the input reads as it did. -/
def fnExactScalePictureSpec : ChangeSpec := { name := "fnExactScalePicture", fn := fun _ => fun
  | [d1, d2] => { results := [.lit (.bool true)], args := [d1, d2] }
  | _ => none }
def fnExactScalePictureRow : OpenClaim := { program := "ytpjonajpgidjfaa", sum := "06b96fe3088009f96ecbafbbbec473dbf07535ba96aea50f237d28999efa6920", func := "loop.example/g01308/laws.FnExactScalePicture", spec := "fnExactScalePicture", unfollowed := true, recurses := true, apart := false }
def FnExactScalePictureSaid : Prop := fnExactScalePictureRow.holds Try.pinned (OpenSpec.ofChange fnExactScalePictureSpec)

/-- ITS FALSE NEIGHBOUR: 'it returns false'. Refute it at one input. -/
def fnExactScalePictureWrong : ChangeSpec := { name := "fnExactScalePicture", fn := fun _ => fun
  | [d1, d2] => { results := [.lit (.bool false)], args := [d1, d2] }
  | _ => none }
def FnExactScalePictureWrongFalsely : Prop := fnExactScalePictureRow.holds Try.pinned (OpenSpec.ofChange fnExactScalePictureWrong)

/-- 'laws.FnExactClipPicture': WHATEVER THE INPUT: true; the input reads as it did. -/
def fnExactClipPictureSpec : ChangeSpec := { name := "fnExactClipPicture", fn := fun _ => fun
  | [d1, d2, d3] => { results := [.lit (.bool true)], args := [d1, d2, d3] }
  | _ => none }
def fnExactClipPictureRow : OpenClaim := { program := "ytpjonajpgidjfaa", sum := "06b96fe3088009f96ecbafbbbec473dbf07535ba96aea50f237d28999efa6920", func := "loop.example/g01308/laws.FnExactClipPicture", spec := "fnExactClipPicture", unfollowed := true, recurses := true, apart := false }
def FnExactClipPictureSaid : Prop := fnExactClipPictureRow.holds Try.pinned (OpenSpec.ofChange fnExactClipPictureSpec)

/-- ITS FALSE NEIGHBOUR: 'it returns false'. Refute it at one input. -/
def fnExactClipPictureWrong : ChangeSpec := { name := "fnExactClipPicture", fn := fun _ => fun
  | [d1, d2, d3] => { results := [.lit (.bool false)], args := [d1, d2, d3] }
  | _ => none }
def FnExactClipPictureWrongFalsely : Prop := fnExactClipPictureRow.holds Try.pinned (OpenSpec.ofChange fnExactClipPictureWrong)

/-- 'laws.FnExactFromHalf': WHATEVER THE INPUT: true; the input reads as it did. -/
def fnExactFromHalfSpec : ChangeSpec := { name := "fnExactFromHalf", fn := fun _ => fun
  | [d] => { results := [.lit (.bool true)], args := [d] }
  | _ => none }
def fnExactFromHalfRow : OpenClaim := { program := "ytpjonajpgidjfaa", sum := "06b96fe3088009f96ecbafbbbec473dbf07535ba96aea50f237d28999efa6920", func := "loop.example/g01308/laws.FnExactFromHalf", spec := "fnExactFromHalf", inPlace := ["math.Float64bits", "math.Float64frombits"], apart := false }
def FnExactFromHalfSaid : Prop := fnExactFromHalfRow.holds Try.pinned (OpenSpec.ofChange fnExactFromHalfSpec)

/-- ITS FALSE NEIGHBOUR: 'it returns false'. Refute it at one input. -/
def fnExactFromHalfWrong : ChangeSpec := { name := "fnExactFromHalf", fn := fun _ => fun
  | [d] => { results := [.lit (.bool false)], args := [d] }
  | _ => none }
def FnExactFromHalfWrongFalsely : Prop := fnExactFromHalfRow.holds Try.pinned (OpenSpec.ofChange fnExactFromHalfWrong)

/-- 'laws.FnExactShareOf': WHATEVER THE INPUT: true; the input reads as it did. -/
def fnExactShareOfSpec : ChangeSpec := { name := "fnExactShareOf", fn := fun _ => fun
  | [d1, d2, d3] => { results := [.lit (.bool true)], args := [d1, d2, d3] }
  | _ => none }
def fnExactShareOfRow : OpenClaim := { program := "ytpjonajpgidjfaa", sum := "06b96fe3088009f96ecbafbbbec473dbf07535ba96aea50f237d28999efa6920", func := "loop.example/g01308/laws.FnExactShareOf", spec := "fnExactShareOf", inPlace := ["math.Float64bits", "math.Float64frombits", "math.RoundToEven"], unfollowed := true, recurses := true, apart := false }
def FnExactShareOfSaid : Prop := fnExactShareOfRow.holds Try.pinned (OpenSpec.ofChange fnExactShareOfSpec)

/-- ITS FALSE NEIGHBOUR: 'it returns false'. Refute it at one input. -/
def fnExactShareOfWrong : ChangeSpec := { name := "fnExactShareOf", fn := fun _ => fun
  | [d1, d2, d3] => { results := [.lit (.bool false)], args := [d1, d2, d3] }
  | _ => none }
def FnExactShareOfWrongFalsely : Prop := fnExactShareOfRow.holds Try.pinned (OpenSpec.ofChange fnExactShareOfWrong)

/-- 'laws.FnExactFromShare': WHATEVER THE INPUT: true; the input reads as it did. -/
def fnExactFromShareSpec : ChangeSpec := { name := "fnExactFromShare", fn := fun _ => fun
  | [d] => { results := [.lit (.bool true)], args := [d] }
  | _ => none }
def fnExactFromShareRow : OpenClaim := { program := "ytpjonajpgidjfaa", sum := "06b96fe3088009f96ecbafbbbec473dbf07535ba96aea50f237d28999efa6920", func := "loop.example/g01308/laws.FnExactFromShare", spec := "fnExactFromShare", inPlace := ["math.Float64bits", "math.Float64frombits"], unfollowed := true, recurses := true, apart := false }
def FnExactFromShareSaid : Prop := fnExactFromShareRow.holds Try.pinned (OpenSpec.ofChange fnExactFromShareSpec)

/-- ITS FALSE NEIGHBOUR: 'it returns false'. Refute it at one input. -/
def fnExactFromShareWrong : ChangeSpec := { name := "fnExactFromShare", fn := fun _ => fun
  | [d] => { results := [.lit (.bool false)], args := [d] }
  | _ => none }
def FnExactFromShareWrongFalsely : Prop := fnExactFromShareRow.holds Try.pinned (OpenSpec.ofChange fnExactFromShareWrong)

/- THE SECOND FORM. 'bulk': how many values and letters a reading holds, each counted each time it is reached (what is shared counts as often as it is met; a slice's spare places count too). A statement '..UptoSaid' is the law's where the arguments, and the package variables that the reading takes, are together of bulk at most 1048576: NARROWER than '..Said'. Prove '..Said' where nothing that the law and all that it calls make is longer than what came in: it says more and counts as full. Else prove '..UptoSaid'. A law counts once. -/
mutual
def uptoBulk {H : Type} : DataW H → Nat
  | .lit (.string bytes) => bytes.length + 1
  | .lit _ => 1
  | .nil => 1
  | .ptr d => uptoBulk d + 1
  | .slice elems spare => uptoBulkAll elems + uptoBulkAll spare + 1
  | .agg parts => uptoBulkAll parts + 1
  | .iface _ d => uptoBulk d + 1
  | .map entries => uptoBulkEntries entries + 1
  | .held _ => 1
def uptoBulkAll {H : Type} : List (DataW H) → Nat
  | [] => 0
  | d :: r => uptoBulk d + uptoBulkAll r
def uptoBulkEntries {H : Type} : List (Lit × DataW H) → Nat
  | [] => 0
  | x :: r => uptoBulkEntry x + uptoBulkEntries r
def uptoBulkEntry {H : Type} : Lit × DataW H → Nat
  | (.string bytes, d) => bytes.length + uptoBulk d + 1
  | (_, d) => uptoBulk d + 1
 end
def uptoSmall : (H : Type) → List (DataW H) → Bool := fun _ ds => decide (uptoBulkAll ds ≤ 1048576)
def OpenSpec.upto (s : _root_.Go.ChangeSpec) : _root_.Go.OpenSpec := { _root_.Go.OpenSpec.ofChange s with cond := some uptoSmall }

/-- 'laws.FnExactValidPicture', WHERE WHAT IT READS IS OF BULK AT MOST 1048576: true; the input reads as it did. -/
def fnExactValidPictureUptoRow : OpenClaim := { program := "ytpjonajpgidjfaa", sum := "06b96fe3088009f96ecbafbbbec473dbf07535ba96aea50f237d28999efa6920", func := "loop.example/g01308/laws.FnExactValidPicture", spec := "fnExactValidPicture", unfollowed := true, recurses := true, apart := false, narrowed := true }
def FnExactValidPictureUptoSaid : Prop := fnExactValidPictureUptoRow.holds Try.pinned (OpenSpec.upto fnExactValidPictureSpec)

/-- 'laws.FnExactSamePicture', WHERE WHAT IT READS IS OF BULK AT MOST 1048576: true; the input reads as it did. -/
def fnExactSamePictureUptoRow : OpenClaim := { program := "ytpjonajpgidjfaa", sum := "06b96fe3088009f96ecbafbbbec473dbf07535ba96aea50f237d28999efa6920", func := "loop.example/g01308/laws.FnExactSamePicture", spec := "fnExactSamePicture", inPlace := ["math.Float32bits", "math.Float64bits"], unfollowed := true, recurses := true, apart := false, narrowed := true }
def FnExactSamePictureUptoSaid : Prop := fnExactSamePictureUptoRow.holds Try.pinned (OpenSpec.upto fnExactSamePictureSpec)

/-- 'laws.FnExactRangeOfPicture', WHERE WHAT IT READS IS OF BULK AT MOST 1048576: true; the input reads as it did. -/
def fnExactRangeOfPictureUptoRow : OpenClaim := { program := "ytpjonajpgidjfaa", sum := "06b96fe3088009f96ecbafbbbec473dbf07535ba96aea50f237d28999efa6920", func := "loop.example/g01308/laws.FnExactRangeOfPicture", spec := "fnExactRangeOfPicture", unfollowed := true, recurses := true, apart := false, narrowed := true }
def FnExactRangeOfPictureUptoSaid : Prop := fnExactRangeOfPictureUptoRow.holds Try.pinned (OpenSpec.upto fnExactRangeOfPictureSpec)

/-- 'laws.FnExactMeanLight', WHERE WHAT IT READS IS OF BULK AT MOST 1048576: true; the input reads as it did. -/
def fnExactMeanLightUptoRow : OpenClaim := { program := "ytpjonajpgidjfaa", sum := "06b96fe3088009f96ecbafbbbec473dbf07535ba96aea50f237d28999efa6920", func := "loop.example/g01308/laws.FnExactMeanLight", spec := "fnExactMeanLight", unfollowed := true, recurses := true, apart := false, narrowed := true }
def FnExactMeanLightUptoSaid : Prop := fnExactMeanLightUptoRow.holds Try.pinned (OpenSpec.upto fnExactMeanLightSpec)

/-- 'laws.FnExactPlainPicture', WHERE WHAT IT READS IS OF BULK AT MOST 1048576: true; the input reads as it did. -/
def fnExactPlainPictureUptoRow : OpenClaim := { program := "ytpjonajpgidjfaa", sum := "06b96fe3088009f96ecbafbbbec473dbf07535ba96aea50f237d28999efa6920", func := "loop.example/g01308/laws.FnExactPlainPicture", spec := "fnExactPlainPicture", unfollowed := true, recurses := true, apart := false, narrowed := true }
def FnExactPlainPictureUptoSaid : Prop := fnExactPlainPictureUptoRow.holds Try.pinned (OpenSpec.upto fnExactPlainPictureSpec)

/-- 'laws.FnExactRampPicture', WHERE WHAT IT READS IS OF BULK AT MOST 1048576: true; the input reads as it did. -/
def fnExactRampPictureUptoRow : OpenClaim := { program := "ytpjonajpgidjfaa", sum := "06b96fe3088009f96ecbafbbbec473dbf07535ba96aea50f237d28999efa6920", func := "loop.example/g01308/laws.FnExactRampPicture", spec := "fnExactRampPicture", unfollowed := true, recurses := true, apart := false, narrowed := true }
def FnExactRampPictureUptoSaid : Prop := fnExactRampPictureUptoRow.holds Try.pinned (OpenSpec.upto fnExactRampPictureSpec)

/-- 'laws.FnExactScalePicture', WHERE WHAT IT READS IS OF BULK AT MOST 1048576: true; the input reads as it did. -/
def fnExactScalePictureUptoRow : OpenClaim := { program := "ytpjonajpgidjfaa", sum := "06b96fe3088009f96ecbafbbbec473dbf07535ba96aea50f237d28999efa6920", func := "loop.example/g01308/laws.FnExactScalePicture", spec := "fnExactScalePicture", unfollowed := true, recurses := true, apart := false, narrowed := true }
def FnExactScalePictureUptoSaid : Prop := fnExactScalePictureUptoRow.holds Try.pinned (OpenSpec.upto fnExactScalePictureSpec)

/-- 'laws.FnExactClipPicture', WHERE WHAT IT READS IS OF BULK AT MOST 1048576: true; the input reads as it did. -/
def fnExactClipPictureUptoRow : OpenClaim := { program := "ytpjonajpgidjfaa", sum := "06b96fe3088009f96ecbafbbbec473dbf07535ba96aea50f237d28999efa6920", func := "loop.example/g01308/laws.FnExactClipPicture", spec := "fnExactClipPicture", unfollowed := true, recurses := true, apart := false, narrowed := true }
def FnExactClipPictureUptoSaid : Prop := fnExactClipPictureUptoRow.holds Try.pinned (OpenSpec.upto fnExactClipPictureSpec)

/-- 'laws.FnExactFromHalf', WHERE WHAT IT READS IS OF BULK AT MOST 1048576: true; the input reads as it did. -/
def fnExactFromHalfUptoRow : OpenClaim := { program := "ytpjonajpgidjfaa", sum := "06b96fe3088009f96ecbafbbbec473dbf07535ba96aea50f237d28999efa6920", func := "loop.example/g01308/laws.FnExactFromHalf", spec := "fnExactFromHalf", inPlace := ["math.Float64bits", "math.Float64frombits"], apart := false, narrowed := true }
def FnExactFromHalfUptoSaid : Prop := fnExactFromHalfUptoRow.holds Try.pinned (OpenSpec.upto fnExactFromHalfSpec)

/-- 'laws.FnExactShareOf', WHERE WHAT IT READS IS OF BULK AT MOST 1048576: true; the input reads as it did. -/
def fnExactShareOfUptoRow : OpenClaim := { program := "ytpjonajpgidjfaa", sum := "06b96fe3088009f96ecbafbbbec473dbf07535ba96aea50f237d28999efa6920", func := "loop.example/g01308/laws.FnExactShareOf", spec := "fnExactShareOf", inPlace := ["math.Float64bits", "math.Float64frombits", "math.RoundToEven"], unfollowed := true, recurses := true, apart := false, narrowed := true }
def FnExactShareOfUptoSaid : Prop := fnExactShareOfUptoRow.holds Try.pinned (OpenSpec.upto fnExactShareOfSpec)

/-- 'laws.FnExactFromShare', WHERE WHAT IT READS IS OF BULK AT MOST 1048576: true; the input reads as it did. -/
def fnExactFromShareUptoRow : OpenClaim := { program := "ytpjonajpgidjfaa", sum := "06b96fe3088009f96ecbafbbbec473dbf07535ba96aea50f237d28999efa6920", func := "loop.example/g01308/laws.FnExactFromShare", spec := "fnExactFromShare", inPlace := ["math.Float64bits", "math.Float64frombits"], unfollowed := true, recurses := true, apart := false, narrowed := true }
def FnExactFromShareUptoSaid : Prop := fnExactFromShareUptoRow.holds Try.pinned (OpenSpec.upto fnExactFromShareSpec)

end Rows
end Go.Proofs.Ytpjonajpgidjfaa
