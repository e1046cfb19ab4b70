/-
  No cell of these rows narrows 'for every input' (looked for: loops, veiled, ifaces, maps, wideKeys, modest, calm, conditions, laid).
  DERIVED. THE GIVEN ROWS OF THIS SEAT. 14 by the template 'for every input the law returns true; each argument reads behind the call as it read before'; 0 by the template 'total and deterministic' (their statements: YtgilhkdmgbeieaaTotals.lean).
  GIVEN WITH THE SEED: the statements are not yours to turn. If you find one false, say at which input.
  Laid BY PROGRAM, IN A SANDBOX (cutbox-rows.mjs): the forced cells as the released guide's own fill.sh prints them over the translation 41df8d8988ab5fcb… (all of the seat's roots in one cut). By AI agents, Wed Nov 11 2026. No macro, syntax, notation, axiom, sorry.
-/
import Derived.Test.YtgilhkdmgbeieaaChecked
import GoSem.Claim
import GoSem.ClaimJoined
import GoSem.ClaimMapViews
import Derived.JoinedTies
import Derived.KernelRfl
namespace Go.Proofs.Ytgilhkdmgbeieaa
/- THE CELL 'sum', in the pinned program and in every row, IS THE sha256 OF THE DUMP (.gsa) THAT YtgilhkdmgbeieaaProg.lean LOADS. Nothing in Lean hashes anything: it is a label: what it is worth is what the hold of that sum in a sandbox is worth. -/
noncomputable def Try.pinned : Pinned := { name := "ytgilhkdmgbeieaa", sum := "41df8d8988ab5fcbceb8610f8e51c9eb0d3edcada3e0781ed064e9562703335b", checked := Try.checked }
namespace Rows
def none {H : Type} : Left H := { results := [], args := [] }

/-- 'waveplatelaw01.ExactTails': WHATEVER THE INPUT: true; the input reads as it did. -/
def exactTailsSpec : ChangeSpec := { name := "exactTails", fn := fun _ => fun
  | [d1, d2, d3, d4] => { results := [.lit (.bool true)], args := [d1, d2, d3, d4] }
  | _ => none }
def exactTailsRow : OpenClaim := { program := "ytgilhkdmgbeieaa", sum := "41df8d8988ab5fcbceb8610f8e51c9eb0d3edcada3e0781ed064e9562703335b", func := "waveplate/waveplatelaw01.ExactTails", spec := "exactTails", unfollowed := true, recurses := true, apart := false }
def ExactTailsSaid : Prop := exactTailsRow.holds Try.pinned (OpenSpec.ofChange exactTailsSpec)

/-- ITS FALSE NEIGHBOUR: 'it returns false'. Refute it at one input. -/
def exactTailsWrong : ChangeSpec := { name := "exactTails", fn := fun _ => fun
  | [d1, d2, d3, d4] => { results := [.lit (.bool false)], args := [d1, d2, d3, d4] }
  | _ => none }
def ExactTailsWrongFalsely : Prop := exactTailsRow.holds Try.pinned (OpenSpec.ofChange exactTailsWrong)

/-- 'waveplatelaw01.ExactSampling': WHATEVER THE INPUT: true; the input reads as it did. -/
def exactSamplingSpec : ChangeSpec := { name := "exactSampling", fn := fun _ => fun
  | [d1, d2, d3, d4] => { results := [.lit (.bool true)], args := [d1, d2, d3, d4] }
  | _ => none }
def exactSamplingRow : OpenClaim := { program := "ytgilhkdmgbeieaa", sum := "41df8d8988ab5fcbceb8610f8e51c9eb0d3edcada3e0781ed064e9562703335b", func := "waveplate/waveplatelaw01.ExactSampling", spec := "exactSampling", unfollowed := true, recurses := true, apart := false }
def ExactSamplingSaid : Prop := exactSamplingRow.holds Try.pinned (OpenSpec.ofChange exactSamplingSpec)

/-- ITS FALSE NEIGHBOUR: 'it returns false'. Refute it at one input. -/
def exactSamplingWrong : ChangeSpec := { name := "exactSampling", fn := fun _ => fun
  | [d1, d2, d3, d4] => { results := [.lit (.bool false)], args := [d1, d2, d3, d4] }
  | _ => none }
def ExactSamplingWrongFalsely : Prop := exactSamplingRow.holds Try.pinned (OpenSpec.ofChange exactSamplingWrong)

/-- 'waveplatelaw01.ExactMonotone': WHATEVER THE INPUT: true; the input reads as it did. -/
def exactMonotoneSpec : ChangeSpec := { name := "exactMonotone", fn := fun _ => fun
  | [d1, d2, d3, d4] => { results := [.lit (.bool true)], args := [d1, d2, d3, d4] }
  | _ => none }
def exactMonotoneRow : OpenClaim := { program := "ytgilhkdmgbeieaa", sum := "41df8d8988ab5fcbceb8610f8e51c9eb0d3edcada3e0781ed064e9562703335b", func := "waveplate/waveplatelaw01.ExactMonotone", spec := "exactMonotone", unfollowed := true, recurses := true, apart := false }
def ExactMonotoneSaid : Prop := exactMonotoneRow.holds Try.pinned (OpenSpec.ofChange exactMonotoneSpec)

/-- ITS FALSE NEIGHBOUR: 'it returns false'. Refute it at one input. -/
def exactMonotoneWrong : ChangeSpec := { name := "exactMonotone", fn := fun _ => fun
  | [d1, d2, d3, d4] => { results := [.lit (.bool false)], args := [d1, d2, d3, d4] }
  | _ => none }
def ExactMonotoneWrongFalsely : Prop := exactMonotoneRow.holds Try.pinned (OpenSpec.ofChange exactMonotoneWrong)

/-- 'waveplatelaw01.ExactOf': WHATEVER THE INPUT: true; the input reads as it did. -/
def exactOfSpec : ChangeSpec := { name := "exactOf", fn := fun _ => fun
  | [d] => { results := [.lit (.bool true)], args := [d] }
  | _ => none }
def exactOfRow : OpenClaim := { program := "ytgilhkdmgbeieaa", sum := "41df8d8988ab5fcbceb8610f8e51c9eb0d3edcada3e0781ed064e9562703335b", func := "waveplate/waveplatelaw01.ExactOf", spec := "exactOf", unfollowed := true, recurses := true, apart := false }
def ExactOfSaid : Prop := exactOfRow.holds Try.pinned (OpenSpec.ofChange exactOfSpec)

/-- ITS FALSE NEIGHBOUR: 'it returns false'. Refute it at one input. -/
def exactOfWrong : ChangeSpec := { name := "exactOf", fn := fun _ => fun
  | [d] => { results := [.lit (.bool false)], args := [d] }
  | _ => none }
def ExactOfWrongFalsely : Prop := exactOfRow.holds Try.pinned (OpenSpec.ofChange exactOfWrong)

/-- 'waveplatelaw01.ExactCounts': WHATEVER THE INPUT: true; the input reads as it did. -/
def exactCountsSpec : ChangeSpec := { name := "exactCounts", fn := fun _ => fun
  | [d1, d2] => { results := [.lit (.bool true)], args := [d1, d2] }
  | _ => none }
def exactCountsRow : OpenClaim := { program := "ytgilhkdmgbeieaa", sum := "41df8d8988ab5fcbceb8610f8e51c9eb0d3edcada3e0781ed064e9562703335b", func := "waveplate/waveplatelaw01.ExactCounts", spec := "exactCounts", unfollowed := true, recurses := true, apart := false }
def ExactCountsSaid : Prop := exactCountsRow.holds Try.pinned (OpenSpec.ofChange exactCountsSpec)

/-- ITS FALSE NEIGHBOUR: 'it returns false'. Refute it at one input. -/
def exactCountsWrong : ChangeSpec := { name := "exactCounts", fn := fun _ => fun
  | [d1, d2] => { results := [.lit (.bool false)], args := [d1, d2] }
  | _ => none }
def ExactCountsWrongFalsely : Prop := exactCountsRow.holds Try.pinned (OpenSpec.ofChange exactCountsWrong)

/-- 'waveplatelaw01.ExactSets': WHATEVER THE INPUT: true; the input reads as it did. -/
def exactSetsSpec : ChangeSpec := { name := "exactSets", fn := fun _ => fun
  | [d1, d2] => { results := [.lit (.bool true)], args := [d1, d2] }
  | _ => none }
def exactSetsRow : OpenClaim := { program := "ytgilhkdmgbeieaa", sum := "41df8d8988ab5fcbceb8610f8e51c9eb0d3edcada3e0781ed064e9562703335b", func := "waveplate/waveplatelaw01.ExactSets", spec := "exactSets", unfollowed := true, recurses := true, apart := false }
def ExactSetsSaid : Prop := exactSetsRow.holds Try.pinned (OpenSpec.ofChange exactSetsSpec)

/-- ITS FALSE NEIGHBOUR: 'it returns false'. Refute it at one input. -/
def exactSetsWrong : ChangeSpec := { name := "exactSets", fn := fun _ => fun
  | [d1, d2] => { results := [.lit (.bool false)], args := [d1, d2] }
  | _ => none }
def ExactSetsWrongFalsely : Prop := exactSetsRow.holds Try.pinned (OpenSpec.ofChange exactSetsWrong)

/-- 'waveplatelaw01.ExactBounds': WHATEVER THE INPUT: true; the input reads as it did. -/
def exactBoundsSpec : ChangeSpec := { name := "exactBounds", fn := fun _ => fun
  | [d1, d2, d3, d4] => { results := [.lit (.bool true)], args := [d1, d2, d3, d4] }
  | _ => none }
def exactBoundsRow : OpenClaim := { program := "ytgilhkdmgbeieaa", sum := "41df8d8988ab5fcbceb8610f8e51c9eb0d3edcada3e0781ed064e9562703335b", func := "waveplate/waveplatelaw01.ExactBounds", spec := "exactBounds", unfollowed := true, recurses := true, apart := false }
def ExactBoundsSaid : Prop := exactBoundsRow.holds Try.pinned (OpenSpec.ofChange exactBoundsSpec)

/-- ITS FALSE NEIGHBOUR: 'it returns false'. Refute it at one input. -/
def exactBoundsWrong : ChangeSpec := { name := "exactBounds", fn := fun _ => fun
  | [d1, d2, d3, d4] => { results := [.lit (.bool false)], args := [d1, d2, d3, d4] }
  | _ => none }
def ExactBoundsWrongFalsely : Prop := exactBoundsRow.holds Try.pinned (OpenSpec.ofChange exactBoundsWrong)

/-- 'waveplatelaw01.ExactPascal': WHATEVER THE INPUT: true; the input reads as it did. -/
def exactPascalSpec : ChangeSpec := { name := "exactPascal", fn := fun _ => fun
  | [d1, d2] => { results := [.lit (.bool true)], args := [d1, d2] }
  | _ => none }
def exactPascalRow : OpenClaim := { program := "ytgilhkdmgbeieaa", sum := "41df8d8988ab5fcbceb8610f8e51c9eb0d3edcada3e0781ed064e9562703335b", func := "waveplate/waveplatelaw01.ExactPascal", spec := "exactPascal", unfollowed := true, recurses := true, apart := false }
def ExactPascalSaid : Prop := exactPascalRow.holds Try.pinned (OpenSpec.ofChange exactPascalSpec)

/-- ITS FALSE NEIGHBOUR: 'it returns false'. Refute it at one input. -/
def exactPascalWrong : ChangeSpec := { name := "exactPascal", fn := fun _ => fun
  | [d1, d2] => { results := [.lit (.bool false)], args := [d1, d2] }
  | _ => none }
def ExactPascalWrongFalsely : Prop := exactPascalRow.holds Try.pinned (OpenSpec.ofChange exactPascalWrong)

/-- 'waveplatelaw01.ExactExcludes': WHATEVER THE INPUT: true; the input reads as it did. -/
def exactExcludesSpec : ChangeSpec := { name := "exactExcludes", fn := fun _ => fun
  | [d1, d2, d3, d4, d5] => { results := [.lit (.bool true)], args := [d1, d2, d3, d4, d5] }
  | _ => none }
def exactExcludesRow : OpenClaim := { program := "ytgilhkdmgbeieaa", sum := "41df8d8988ab5fcbceb8610f8e51c9eb0d3edcada3e0781ed064e9562703335b", func := "waveplate/waveplatelaw01.ExactExcludes", spec := "exactExcludes", unfollowed := true, recurses := true, apart := false }
def ExactExcludesSaid : Prop := exactExcludesRow.holds Try.pinned (OpenSpec.ofChange exactExcludesSpec)

/-- ITS FALSE NEIGHBOUR: 'it returns false'. Refute it at one input. -/
def exactExcludesWrong : ChangeSpec := { name := "exactExcludes", fn := fun _ => fun
  | [d1, d2, d3, d4, d5] => { results := [.lit (.bool false)], args := [d1, d2, d3, d4, d5] }
  | _ => none }
def ExactExcludesWrongFalsely : Prop := exactExcludesRow.holds Try.pinned (OpenSpec.ofChange exactExcludesWrong)

/-- 'waveplatelaw01.ExactFracs': WHATEVER THE INPUT: true; the input reads as it did. -/
def exactFracsSpec : ChangeSpec := { name := "exactFracs", fn := fun _ => fun
  | [d1, d2] => { results := [.lit (.bool true)], args := [d1, d2] }
  | _ => none }
def exactFracsRow : OpenClaim := { program := "ytgilhkdmgbeieaa", sum := "41df8d8988ab5fcbceb8610f8e51c9eb0d3edcada3e0781ed064e9562703335b", func := "waveplate/waveplatelaw01.ExactFracs", spec := "exactFracs", unfollowed := true, recurses := true, apart := false }
def ExactFracsSaid : Prop := exactFracsRow.holds Try.pinned (OpenSpec.ofChange exactFracsSpec)

/-- ITS FALSE NEIGHBOUR: 'it returns false'. Refute it at one input. -/
def exactFracsWrong : ChangeSpec := { name := "exactFracs", fn := fun _ => fun
  | [d1, d2] => { results := [.lit (.bool false)], args := [d1, d2] }
  | _ => none }
def ExactFracsWrongFalsely : Prop := exactFracsRow.holds Try.pinned (OpenSpec.ofChange exactFracsWrong)

/-- 'waveplatelaw01.ExactLaws': WHATEVER THE INPUT: true; the input reads as it did. -/
def exactLawsSpec : ChangeSpec := { name := "exactLaws", fn := fun _ => fun
  | [d1, d2, d3] => { results := [.lit (.bool true)], args := [d1, d2, d3] }
  | _ => none }
def exactLawsRow : OpenClaim := { program := "ytgilhkdmgbeieaa", sum := "41df8d8988ab5fcbceb8610f8e51c9eb0d3edcada3e0781ed064e9562703335b", func := "waveplate/waveplatelaw01.ExactLaws", spec := "exactLaws", unfollowed := true, recurses := true, apart := false }
def ExactLawsSaid : Prop := exactLawsRow.holds Try.pinned (OpenSpec.ofChange exactLawsSpec)

/-- ITS FALSE NEIGHBOUR: 'it returns false'. Refute it at one input. -/
def exactLawsWrong : ChangeSpec := { name := "exactLaws", fn := fun _ => fun
  | [d1, d2, d3] => { results := [.lit (.bool false)], args := [d1, d2, d3] }
  | _ => none }
def ExactLawsWrongFalsely : Prop := exactLawsRow.holds Try.pinned (OpenSpec.ofChange exactLawsWrong)

/-- 'waveplatelaw01.ExactNumbers': WHATEVER THE INPUT: true; the input reads as it did. -/
def exactNumbersSpec : ChangeSpec := { name := "exactNumbers", fn := fun _ => fun
  | [d1, d2] => { results := [.lit (.bool true)], args := [d1, d2] }
  | _ => none }
def exactNumbersRow : OpenClaim := { program := "ytgilhkdmgbeieaa", sum := "41df8d8988ab5fcbceb8610f8e51c9eb0d3edcada3e0781ed064e9562703335b", func := "waveplate/waveplatelaw01.ExactNumbers", spec := "exactNumbers", unfollowed := true, recurses := true, apart := false }
def ExactNumbersSaid : Prop := exactNumbersRow.holds Try.pinned (OpenSpec.ofChange exactNumbersSpec)

/-- ITS FALSE NEIGHBOUR: 'it returns false'. Refute it at one input. -/
def exactNumbersWrong : ChangeSpec := { name := "exactNumbers", fn := fun _ => fun
  | [d1, d2] => { results := [.lit (.bool false)], args := [d1, d2] }
  | _ => none }
def ExactNumbersWrongFalsely : Prop := exactNumbersRow.holds Try.pinned (OpenSpec.ofChange exactNumbersWrong)

/-- 'waveplatelaw01.ExactParses': WHATEVER THE INPUT: true; the input reads as it did. -/
def exactParsesSpec : ChangeSpec := { name := "exactParses", fn := fun _ => fun
  | [d] => { results := [.lit (.bool true)], args := [d] }
  | _ => none }
def exactParsesRow : OpenClaim := { program := "ytgilhkdmgbeieaa", sum := "41df8d8988ab5fcbceb8610f8e51c9eb0d3edcada3e0781ed064e9562703335b", func := "waveplate/waveplatelaw01.ExactParses", spec := "exactParses", inPlace := ["internal/bytealg.IndexByteString", "internal/bytealg.IndexString"], unfollowed := true, recurses := true, named := ["internal/bytealg.MaxLen"], apart := false }
def ExactParsesSaid : Prop := exactParsesRow.holds Try.pinned (OpenSpec.ofChange exactParsesSpec)

/-- ITS FALSE NEIGHBOUR: 'it returns false'. Refute it at one input. -/
def exactParsesWrong : ChangeSpec := { name := "exactParses", fn := fun _ => fun
  | [d] => { results := [.lit (.bool false)], args := [d] }
  | _ => none }
def ExactParsesWrongFalsely : Prop := exactParsesRow.holds Try.pinned (OpenSpec.ofChange exactParsesWrong)

/-- 'waveplatelaw01.ExactTexts': WHATEVER THE INPUT: true; the input reads as it did. -/
def exactTextsSpec : ChangeSpec := { name := "exactTexts", fn := fun _ => fun
  | [d1, d2] => { results := [.lit (.bool true)], args := [d1, d2] }
  | _ => none }
def exactTextsRow : OpenClaim := { program := "ytgilhkdmgbeieaa", sum := "41df8d8988ab5fcbceb8610f8e51c9eb0d3edcada3e0781ed064e9562703335b", func := "waveplate/waveplatelaw01.ExactTexts", spec := "exactTexts", inPlace := ["internal/bytealg.IndexByteString", "internal/bytealg.IndexString"], unfollowed := true, recurses := true, named := ["internal/bytealg.MaxLen"], apart := false }
def ExactTextsSaid : Prop := exactTextsRow.holds Try.pinned (OpenSpec.ofChange exactTextsSpec)

/-- ITS FALSE NEIGHBOUR: 'it returns false'. Refute it at one input. -/
def exactTextsWrong : ChangeSpec := { name := "exactTexts", fn := fun _ => fun
  | [d1, d2] => { results := [.lit (.bool false)], args := [d1, d2] }
  | _ => none }
def ExactTextsWrongFalsely : Prop := exactTextsRow.holds Try.pinned (OpenSpec.ofChange exactTextsWrong)

/- THE SECOND FORM. 'bulk': how many values and letters a reading holds, each counted each time it is reached (what is shared counts as often as it is met; a slice's spare places count too). A statement '..UptoSaid' is the law's where the arguments, and the package variables that the reading takes, are together of bulk at most 1048576: NARROWER than '..Said'. Prove '..Said' where nothing that the law and all that it calls make is longer than what came in: it says more and counts as full. Else prove '..UptoSaid'. A law counts once. -/
mutual
def uptoBulk {H : Type} : DataW H → Nat
  | .lit (.string bytes) => bytes.length + 1
  | .lit _ => 1
  | .nil => 1
  | .ptr d => uptoBulk d + 1
  | .slice elems spare => uptoBulkAll elems + uptoBulkAll spare + 1
  | .agg parts => uptoBulkAll parts + 1
  | .iface _ d => uptoBulk d + 1
  | .map entries => uptoBulkEntries entries + 1
  | .held _ => 1
def uptoBulkAll {H : Type} : List (DataW H) → Nat
  | [] => 0
  | d :: r => uptoBulk d + uptoBulkAll r
def uptoBulkEntries {H : Type} : List (Lit × DataW H) → Nat
  | [] => 0
  | x :: r => uptoBulkEntry x + uptoBulkEntries r
def uptoBulkEntry {H : Type} : Lit × DataW H → Nat
  | (.string bytes, d) => bytes.length + uptoBulk d + 1
  | (_, d) => uptoBulk d + 1
 end
def uptoSmall : (H : Type) → List (DataW H) → Bool := fun _ ds => decide (uptoBulkAll ds ≤ 1048576)
def OpenSpec.upto (s : _root_.Go.ChangeSpec) : _root_.Go.OpenSpec := { _root_.Go.OpenSpec.ofChange s with cond := some uptoSmall }

/-- 'waveplatelaw01.ExactTails', WHERE WHAT IT READS IS OF BULK AT MOST 1048576: true; the input reads as it did. -/
def exactTailsUptoRow : OpenClaim := { program := "ytgilhkdmgbeieaa", sum := "41df8d8988ab5fcbceb8610f8e51c9eb0d3edcada3e0781ed064e9562703335b", func := "waveplate/waveplatelaw01.ExactTails", spec := "exactTails", unfollowed := true, recurses := true, apart := false, narrowed := true }
def ExactTailsUptoSaid : Prop := exactTailsUptoRow.holds Try.pinned (OpenSpec.upto exactTailsSpec)

/-- 'waveplatelaw01.ExactSampling', WHERE WHAT IT READS IS OF BULK AT MOST 1048576: true; the input reads as it did. -/
def exactSamplingUptoRow : OpenClaim := { program := "ytgilhkdmgbeieaa", sum := "41df8d8988ab5fcbceb8610f8e51c9eb0d3edcada3e0781ed064e9562703335b", func := "waveplate/waveplatelaw01.ExactSampling", spec := "exactSampling", unfollowed := true, recurses := true, apart := false, narrowed := true }
def ExactSamplingUptoSaid : Prop := exactSamplingUptoRow.holds Try.pinned (OpenSpec.upto exactSamplingSpec)

/-- 'waveplatelaw01.ExactMonotone', WHERE WHAT IT READS IS OF BULK AT MOST 1048576: true; the input reads as it did. -/
def exactMonotoneUptoRow : OpenClaim := { program := "ytgilhkdmgbeieaa", sum := "41df8d8988ab5fcbceb8610f8e51c9eb0d3edcada3e0781ed064e9562703335b", func := "waveplate/waveplatelaw01.ExactMonotone", spec := "exactMonotone", unfollowed := true, recurses := true, apart := false, narrowed := true }
def ExactMonotoneUptoSaid : Prop := exactMonotoneUptoRow.holds Try.pinned (OpenSpec.upto exactMonotoneSpec)

/-- 'waveplatelaw01.ExactOf', WHERE WHAT IT READS IS OF BULK AT MOST 1048576: true; the input reads as it did. -/
def exactOfUptoRow : OpenClaim := { program := "ytgilhkdmgbeieaa", sum := "41df8d8988ab5fcbceb8610f8e51c9eb0d3edcada3e0781ed064e9562703335b", func := "waveplate/waveplatelaw01.ExactOf", spec := "exactOf", unfollowed := true, recurses := true, apart := false, narrowed := true }
def ExactOfUptoSaid : Prop := exactOfUptoRow.holds Try.pinned (OpenSpec.upto exactOfSpec)

/-- 'waveplatelaw01.ExactCounts', WHERE WHAT IT READS IS OF BULK AT MOST 1048576: true; the input reads as it did. -/
def exactCountsUptoRow : OpenClaim := { program := "ytgilhkdmgbeieaa", sum := "41df8d8988ab5fcbceb8610f8e51c9eb0d3edcada3e0781ed064e9562703335b", func := "waveplate/waveplatelaw01.ExactCounts", spec := "exactCounts", unfollowed := true, recurses := true, apart := false, narrowed := true }
def ExactCountsUptoSaid : Prop := exactCountsUptoRow.holds Try.pinned (OpenSpec.upto exactCountsSpec)

/-- 'waveplatelaw01.ExactSets', WHERE WHAT IT READS IS OF BULK AT MOST 1048576: true; the input reads as it did. -/
def exactSetsUptoRow : OpenClaim := { program := "ytgilhkdmgbeieaa", sum := "41df8d8988ab5fcbceb8610f8e51c9eb0d3edcada3e0781ed064e9562703335b", func := "waveplate/waveplatelaw01.ExactSets", spec := "exactSets", unfollowed := true, recurses := true, apart := false, narrowed := true }
def ExactSetsUptoSaid : Prop := exactSetsUptoRow.holds Try.pinned (OpenSpec.upto exactSetsSpec)

/-- 'waveplatelaw01.ExactBounds', WHERE WHAT IT READS IS OF BULK AT MOST 1048576: true; the input reads as it did. -/
def exactBoundsUptoRow : OpenClaim := { program := "ytgilhkdmgbeieaa", sum := "41df8d8988ab5fcbceb8610f8e51c9eb0d3edcada3e0781ed064e9562703335b", func := "waveplate/waveplatelaw01.ExactBounds", spec := "exactBounds", unfollowed := true, recurses := true, apart := false, narrowed := true }
def ExactBoundsUptoSaid : Prop := exactBoundsUptoRow.holds Try.pinned (OpenSpec.upto exactBoundsSpec)

/-- 'waveplatelaw01.ExactPascal', WHERE WHAT IT READS IS OF BULK AT MOST 1048576: true; the input reads as it did. -/
def exactPascalUptoRow : OpenClaim := { program := "ytgilhkdmgbeieaa", sum := "41df8d8988ab5fcbceb8610f8e51c9eb0d3edcada3e0781ed064e9562703335b", func := "waveplate/waveplatelaw01.ExactPascal", spec := "exactPascal", unfollowed := true, recurses := true, apart := false, narrowed := true }
def ExactPascalUptoSaid : Prop := exactPascalUptoRow.holds Try.pinned (OpenSpec.upto exactPascalSpec)

/-- 'waveplatelaw01.ExactExcludes', WHERE WHAT IT READS IS OF BULK AT MOST 1048576: true; the input reads as it did. -/
def exactExcludesUptoRow : OpenClaim := { program := "ytgilhkdmgbeieaa", sum := "41df8d8988ab5fcbceb8610f8e51c9eb0d3edcada3e0781ed064e9562703335b", func := "waveplate/waveplatelaw01.ExactExcludes", spec := "exactExcludes", unfollowed := true, recurses := true, apart := false, narrowed := true }
def ExactExcludesUptoSaid : Prop := exactExcludesUptoRow.holds Try.pinned (OpenSpec.upto exactExcludesSpec)

/-- 'waveplatelaw01.ExactFracs', WHERE WHAT IT READS IS OF BULK AT MOST 1048576: true; the input reads as it did. -/
def exactFracsUptoRow : OpenClaim := { program := "ytgilhkdmgbeieaa", sum := "41df8d8988ab5fcbceb8610f8e51c9eb0d3edcada3e0781ed064e9562703335b", func := "waveplate/waveplatelaw01.ExactFracs", spec := "exactFracs", unfollowed := true, recurses := true, apart := false, narrowed := true }
def ExactFracsUptoSaid : Prop := exactFracsUptoRow.holds Try.pinned (OpenSpec.upto exactFracsSpec)

/-- 'waveplatelaw01.ExactLaws', WHERE WHAT IT READS IS OF BULK AT MOST 1048576: true; the input reads as it did. -/
def exactLawsUptoRow : OpenClaim := { program := "ytgilhkdmgbeieaa", sum := "41df8d8988ab5fcbceb8610f8e51c9eb0d3edcada3e0781ed064e9562703335b", func := "waveplate/waveplatelaw01.ExactLaws", spec := "exactLaws", unfollowed := true, recurses := true, apart := false, narrowed := true }
def ExactLawsUptoSaid : Prop := exactLawsUptoRow.holds Try.pinned (OpenSpec.upto exactLawsSpec)

/-- 'waveplatelaw01.ExactNumbers', WHERE WHAT IT READS IS OF BULK AT MOST 1048576: true; the input reads as it did. -/
def exactNumbersUptoRow : OpenClaim := { program := "ytgilhkdmgbeieaa", sum := "41df8d8988ab5fcbceb8610f8e51c9eb0d3edcada3e0781ed064e9562703335b", func := "waveplate/waveplatelaw01.ExactNumbers", spec := "exactNumbers", unfollowed := true, recurses := true, apart := false, narrowed := true }
def ExactNumbersUptoSaid : Prop := exactNumbersUptoRow.holds Try.pinned (OpenSpec.upto exactNumbersSpec)

/-- 'waveplatelaw01.ExactParses', WHERE WHAT IT READS IS OF BULK AT MOST 1048576: true; the input reads as it did. -/
def exactParsesUptoRow : OpenClaim := { program := "ytgilhkdmgbeieaa", sum := "41df8d8988ab5fcbceb8610f8e51c9eb0d3edcada3e0781ed064e9562703335b", func := "waveplate/waveplatelaw01.ExactParses", spec := "exactParses", inPlace := ["internal/bytealg.IndexByteString", "internal/bytealg.IndexString"], unfollowed := true, recurses := true, named := ["internal/bytealg.MaxLen"], apart := false, narrowed := true }
def ExactParsesUptoSaid : Prop := exactParsesUptoRow.holds Try.pinned (OpenSpec.upto exactParsesSpec)

/-- 'waveplatelaw01.ExactTexts', WHERE WHAT IT READS IS OF BULK AT MOST 1048576: true; the input reads as it did. -/
def exactTextsUptoRow : OpenClaim := { program := "ytgilhkdmgbeieaa", sum := "41df8d8988ab5fcbceb8610f8e51c9eb0d3edcada3e0781ed064e9562703335b", func := "waveplate/waveplatelaw01.ExactTexts", spec := "exactTexts", inPlace := ["internal/bytealg.IndexByteString", "internal/bytealg.IndexString"], unfollowed := true, recurses := true, named := ["internal/bytealg.MaxLen"], apart := false, narrowed := true }
def ExactTextsUptoSaid : Prop := exactTextsUptoRow.holds Try.pinned (OpenSpec.upto exactTextsSpec)

end Rows
end Go.Proofs.Ytgilhkdmgbeieaa
