/-
  No cell of these rows narrows 'for every input' (looked for: loops, veiled, ifaces, maps, wideKeys, modest, calm, conditions, laid).
  DERIVED. THE GIVEN ROWS OF THIS SEAT. 3 by the template 'for every input the law returns true; each argument reads behind the call as it read before'; 0 by the template 'total and deterministic' (their statements: YtchhkokpjdkkiaaTotals.lean).
  GIVEN WITH THE SEED: the statements are not yours to turn. If you find one false, say at which input.
  Laid BY PROGRAM, IN A SANDBOX (cutbox-rows.mjs): the forced cells as the released guide's own fill.sh prints them over the translation 0aa55764c1ab1dd8… (all of the seat's roots in one cut). By AI agents, Wed Nov 11 2026. No macro, syntax, notation, axiom, sorry.
-/
import Derived.Test.YtchhkokpjdkkiaaChecked
import GoSem.Claim
import GoSem.ClaimJoined
import GoSem.ClaimMapViews
import Derived.JoinedTies
import Derived.KernelRfl
namespace Go.Proofs.Ytchhkokpjdkkiaa
/- THE CELL 'sum', in the pinned program and in every row, IS THE sha256 OF THE DUMP (.gsa) THAT YtchhkokpjdkkiaaProg.lean LOADS. Nothing in Lean hashes anything: it is a label: what it is worth is what the hold of that sum in a sandbox is worth. -/
noncomputable def Try.pinned : Pinned := { name := "ytchhkokpjdkkiaa", sum := "0aa55764c1ab1dd805f98a8c62f3aaf4e2f9b610baf5022d3d68676a043a25d6", checked := Try.checked }
namespace Rows
def none {H : Type} : Left H := { results := [], args := [] }

/-- 'waveplatetop.TopDiscloses': WHATEVER THE INPUT: true; the input reads as it did. -/
def topDisclosesSpec : ChangeSpec := { name := "topDiscloses", fn := fun _ => fun
  | [d] => { results := [.lit (.bool true)], args := [d] }
  | _ => none }
def topDisclosesRow : OpenClaim := { program := "ytchhkokpjdkkiaa", sum := "0aa55764c1ab1dd805f98a8c62f3aaf4e2f9b610baf5022d3d68676a043a25d6", func := "waveplate/waveplatetop.TopDiscloses", spec := "topDiscloses", unfollowed := true, recurses := true, plainKeys := false, apart := false }
def TopDisclosesSaid : Prop := topDisclosesRow.holds Try.pinned (OpenSpec.ofChange topDisclosesSpec)

/-- ITS FALSE NEIGHBOUR: 'it returns false'. Refute it at one input. -/
def topDisclosesWrong : ChangeSpec := { name := "topDiscloses", fn := fun _ => fun
  | [d] => { results := [.lit (.bool false)], args := [d] }
  | _ => none }
def TopDisclosesWrongFalsely : Prop := topDisclosesRow.holds Try.pinned (OpenSpec.ofChange topDisclosesWrong)

/-- 'waveplatetop.TopSifts': WHATEVER THE INPUT: true; the input reads as it did. -/
def topSiftsSpec : ChangeSpec := { name := "topSifts", fn := fun _ => fun
  | [d] => { results := [.lit (.bool true)], args := [d] }
  | _ => none }
def topSiftsRow : OpenClaim := { program := "ytchhkokpjdkkiaa", sum := "0aa55764c1ab1dd805f98a8c62f3aaf4e2f9b610baf5022d3d68676a043a25d6", func := "waveplate/waveplatetop.TopSifts", spec := "topSifts", unfollowed := true, recurses := true, plainKeys := false, apart := false }
def TopSiftsSaid : Prop := topSiftsRow.holds Try.pinned (OpenSpec.ofChange topSiftsSpec)

/-- ITS FALSE NEIGHBOUR: 'it returns false'. Refute it at one input. -/
def topSiftsWrong : ChangeSpec := { name := "topSifts", fn := fun _ => fun
  | [d] => { results := [.lit (.bool false)], args := [d] }
  | _ => none }
def TopSiftsWrongFalsely : Prop := topSiftsRow.holds Try.pinned (OpenSpec.ofChange topSiftsWrong)

/-- 'waveplatetop.TopDisturbs': WHATEVER THE INPUT: true; the input reads as it did. -/
def topDisturbsSpec : ChangeSpec := { name := "topDisturbs", fn := fun _ => fun
  | [d] => { results := [.lit (.bool true)], args := [d] }
  | _ => none }
def topDisturbsRow : OpenClaim := { program := "ytchhkokpjdkkiaa", sum := "0aa55764c1ab1dd805f98a8c62f3aaf4e2f9b610baf5022d3d68676a043a25d6", func := "waveplate/waveplatetop.TopDisturbs", spec := "topDisturbs", unfollowed := true, recurses := true, plainKeys := false, apart := false }
def TopDisturbsSaid : Prop := topDisturbsRow.holds Try.pinned (OpenSpec.ofChange topDisturbsSpec)

/-- ITS FALSE NEIGHBOUR: 'it returns false'. Refute it at one input. -/
def topDisturbsWrong : ChangeSpec := { name := "topDisturbs", fn := fun _ => fun
  | [d] => { results := [.lit (.bool false)], args := [d] }
  | _ => none }
def TopDisturbsWrongFalsely : Prop := topDisturbsRow.holds Try.pinned (OpenSpec.ofChange topDisturbsWrong)

/- THE SECOND FORM. 'bulk': how many values and letters a reading holds, each counted each time it is reached (what is shared counts as often as it is met; a slice's spare places count too). A statement '..UptoSaid' is the law's where the arguments, and the package variables that the reading takes, are together of bulk at most 1048576: NARROWER than '..Said'. Prove '..Said' where nothing that the law and all that it calls make is longer than what came in: it says more and counts as full. Else prove '..UptoSaid'. A law counts once. -/
mutual
def uptoBulk {H : Type} : DataW H → Nat
  | .lit (.string bytes) => bytes.length + 1
  | .lit _ => 1
  | .nil => 1
  | .ptr d => uptoBulk d + 1
  | .slice elems spare => uptoBulkAll elems + uptoBulkAll spare + 1
  | .agg parts => uptoBulkAll parts + 1
  | .iface _ d => uptoBulk d + 1
  | .map entries => uptoBulkEntries entries + 1
  | .held _ => 1
def uptoBulkAll {H : Type} : List (DataW H) → Nat
  | [] => 0
  | d :: r => uptoBulk d + uptoBulkAll r
def uptoBulkEntries {H : Type} : List (Lit × DataW H) → Nat
  | [] => 0
  | x :: r => uptoBulkEntry x + uptoBulkEntries r
def uptoBulkEntry {H : Type} : Lit × DataW H → Nat
  | (.string bytes, d) => bytes.length + uptoBulk d + 1
  | (_, d) => uptoBulk d + 1
 end
def uptoSmall : (H : Type) → List (DataW H) → Bool := fun _ ds => decide (uptoBulkAll ds ≤ 1048576)
def OpenSpec.upto (s : _root_.Go.ChangeSpec) : _root_.Go.OpenSpec := { _root_.Go.OpenSpec.ofChange s with cond := some uptoSmall }

/-- 'waveplatetop.TopDiscloses', WHERE WHAT IT READS IS OF BULK AT MOST 1048576: true; the input reads as it did. -/
def topDisclosesUptoRow : OpenClaim := { program := "ytchhkokpjdkkiaa", sum := "0aa55764c1ab1dd805f98a8c62f3aaf4e2f9b610baf5022d3d68676a043a25d6", func := "waveplate/waveplatetop.TopDiscloses", spec := "topDiscloses", unfollowed := true, recurses := true, plainKeys := false, apart := false, narrowed := true }
def TopDisclosesUptoSaid : Prop := topDisclosesUptoRow.holds Try.pinned (OpenSpec.upto topDisclosesSpec)

/-- 'waveplatetop.TopSifts', WHERE WHAT IT READS IS OF BULK AT MOST 1048576: true; the input reads as it did. -/
def topSiftsUptoRow : OpenClaim := { program := "ytchhkokpjdkkiaa", sum := "0aa55764c1ab1dd805f98a8c62f3aaf4e2f9b610baf5022d3d68676a043a25d6", func := "waveplate/waveplatetop.TopSifts", spec := "topSifts", unfollowed := true, recurses := true, plainKeys := false, apart := false, narrowed := true }
def TopSiftsUptoSaid : Prop := topSiftsUptoRow.holds Try.pinned (OpenSpec.upto topSiftsSpec)

/-- 'waveplatetop.TopDisturbs', WHERE WHAT IT READS IS OF BULK AT MOST 1048576: true; the input reads as it did. -/
def topDisturbsUptoRow : OpenClaim := { program := "ytchhkokpjdkkiaa", sum := "0aa55764c1ab1dd805f98a8c62f3aaf4e2f9b610baf5022d3d68676a043a25d6", func := "waveplate/waveplatetop.TopDisturbs", spec := "topDisturbs", unfollowed := true, recurses := true, plainKeys := false, apart := false, narrowed := true }
def TopDisturbsUptoSaid : Prop := topDisturbsUptoRow.holds Try.pinned (OpenSpec.upto topDisturbsSpec)

end Rows
end Go.Proofs.Ytchhkokpjdkkiaa
