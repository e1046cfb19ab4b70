/-
  DERIVED. GIVEN WITH THE SEED: THE CARDS: each row of YthdidjnhfkeokaaDoorRows.lean that lists a variable, with what it lists TIED to the program's text (the seventh form; the later family's looks); each row that meets fmt, with fmt's text TOLD by the authors' own Lean function (tested against real Go, not proved from fmt's source: count such statements apart). THE CARD IS WHAT COUNTS. Prove the row's statement (the work); the ties are given (YthdidjnhfkeokaaDoorTie.lean); close each card by the builder's one call (the guide's Derived/Test/ToyasCard.lean, 'card_holds'). Laid BY PROGRAM, IN A SANDBOX (cutbox-door.mjs). By AI agents, Wed Nov 11 2026. No macro, syntax, notation, axiom, sorry.
-/
import Derived.Test.YthdidjnhfkeokaaDoorRows
import GoSem.ClaimSeven
namespace Go.Proofs.YthdidjnhfkeokaaDoor
namespace Rows

/-- THE TIED CARD OF 'waveplatelaw03.OpticsTexts'. -/
def opticsTextsCard : Claim7 := { stood := { row := opticsTextsRow, standIns := [], harness := (true, "67b2453d59177de9b9bf7fdbb9700f8ba314a0474df4a4194faa6fb61aad9fa1"), looks := false }, kinds := [], alts := [], laidByText := true, laidKinds := [.data, .data, .data, .data, .pinned], laidTests := true, laidLooks := .later }
def OpticsTextsCardSaid : Prop := Claim7.holds Tryd.pinned (.plain (OpenSpec.ofChange opticsTextsSpec)) opticsTextsCard

/-- THE TIED CARD OF 'waveplatelaw03.OpticsParses'. -/
def opticsParsesCard : Claim7 := { stood := { row := opticsParsesRow, standIns := [], harness := (true, "67b2453d59177de9b9bf7fdbb9700f8ba314a0474df4a4194faa6fb61aad9fa1"), looks := false }, kinds := [], alts := [], laidByText := true, laidKinds := [.data, .data, .data, .data, .pinned], laidTests := true, laidLooks := .later }
def OpticsParsesCardSaid : Prop := Claim7.holds Tryd.pinned (.plain (OpenSpec.ofChange opticsParsesSpec)) opticsParsesCard

/-- THE TIED CARD OF 'waveplatelaw03.OpticsShows'. -/
def opticsShowsCard : Claim7 := { stood := { row := opticsShowsRow, standIns := [], harness := (true, "67b2453d59177de9b9bf7fdbb9700f8ba314a0474df4a4194faa6fb61aad9fa1"), looks := false }, kinds := [], alts := [], laidByText := true, laidKinds := [.data, .data, .data], laidTests := true, laidLooks := .later }
def OpticsShowsCardSaid : Prop := Claim7.holds Tryd.pinned (.plain (OpenSpec.ofChange opticsShowsSpec)) opticsShowsCard

/-- THE TIED CARD OF 'waveplatelaw03.OpticsReads'. -/
def opticsReadsCard : Claim7 := { stood := { row := opticsReadsRow, standIns := [], harness := (true, "67b2453d59177de9b9bf7fdbb9700f8ba314a0474df4a4194faa6fb61aad9fa1"), looks := false }, kinds := [], alts := [], laidByText := true, laidKinds := [.data, .data, .data, .data, .pinned], laidTests := true, laidLooks := .later }
def OpticsReadsCardSaid : Prop := Claim7.holds Tryd.pinned (.plain (OpenSpec.ofChange opticsReadsSpec)) opticsReadsCard

/-- THE TIED CARD OF 'waveplatelaw03.OpticsRules'. -/
def opticsRulesCard : Claim7 := { stood := { row := opticsRulesRow, standIns := [], harness := (true, "67b2453d59177de9b9bf7fdbb9700f8ba314a0474df4a4194faa6fb61aad9fa1"), looks := false }, kinds := [], alts := [], laidByText := true, laidKinds := [.data, .data, .data, .data, .pinned], laidTests := true, laidLooks := .later }
def OpticsRulesCardSaid : Prop := Claim7.holds Tryd.pinned (.plain (OpenSpec.ofChange opticsRulesSpec)) opticsRulesCard

/-- THE SECOND FORM's CARD OF 'waveplatelaw03.OpticsTexts'. -/
def opticsTextsUptoCard : Claim7 := { stood := { row := opticsTextsUptoRow, standIns := [], harness := (true, "67b2453d59177de9b9bf7fdbb9700f8ba314a0474df4a4194faa6fb61aad9fa1"), looks := false }, kinds := [], alts := [], laidByText := true, laidKinds := [.data, .data, .data, .data, .pinned], laidTests := true, laidLooks := .later }
def OpticsTextsUptoCardSaid : Prop := Claim7.holds Tryd.pinned (.plain (OpenSpec.upto opticsTextsSpec)) opticsTextsUptoCard

/-- THE SECOND FORM's CARD OF 'waveplatelaw03.OpticsParses'. -/
def opticsParsesUptoCard : Claim7 := { stood := { row := opticsParsesUptoRow, standIns := [], harness := (true, "67b2453d59177de9b9bf7fdbb9700f8ba314a0474df4a4194faa6fb61aad9fa1"), looks := false }, kinds := [], alts := [], laidByText := true, laidKinds := [.data, .data, .data, .data, .pinned], laidTests := true, laidLooks := .later }
def OpticsParsesUptoCardSaid : Prop := Claim7.holds Tryd.pinned (.plain (OpenSpec.upto opticsParsesSpec)) opticsParsesUptoCard

/-- THE SECOND FORM's CARD OF 'waveplatelaw03.OpticsShows'. -/
def opticsShowsUptoCard : Claim7 := { stood := { row := opticsShowsUptoRow, standIns := [], harness := (true, "67b2453d59177de9b9bf7fdbb9700f8ba314a0474df4a4194faa6fb61aad9fa1"), looks := false }, kinds := [], alts := [], laidByText := true, laidKinds := [.data, .data, .data], laidTests := true, laidLooks := .later }
def OpticsShowsUptoCardSaid : Prop := Claim7.holds Tryd.pinned (.plain (OpenSpec.upto opticsShowsSpec)) opticsShowsUptoCard

/-- THE SECOND FORM's CARD OF 'waveplatelaw03.OpticsReads'. -/
def opticsReadsUptoCard : Claim7 := { stood := { row := opticsReadsUptoRow, standIns := [], harness := (true, "67b2453d59177de9b9bf7fdbb9700f8ba314a0474df4a4194faa6fb61aad9fa1"), looks := false }, kinds := [], alts := [], laidByText := true, laidKinds := [.data, .data, .data, .data, .pinned], laidTests := true, laidLooks := .later }
def OpticsReadsUptoCardSaid : Prop := Claim7.holds Tryd.pinned (.plain (OpenSpec.upto opticsReadsSpec)) opticsReadsUptoCard

/-- THE SECOND FORM's CARD OF 'waveplatelaw03.OpticsRules'. -/
def opticsRulesUptoCard : Claim7 := { stood := { row := opticsRulesUptoRow, standIns := [], harness := (true, "67b2453d59177de9b9bf7fdbb9700f8ba314a0474df4a4194faa6fb61aad9fa1"), looks := false }, kinds := [], alts := [], laidByText := true, laidKinds := [.data, .data, .data, .data, .pinned], laidTests := true, laidLooks := .later }
def OpticsRulesUptoCardSaid : Prop := Claim7.holds Tryd.pinned (.plain (OpenSpec.upto opticsRulesSpec)) opticsRulesUptoCard
end Rows
end Go.Proofs.YthdidjnhfkeokaaDoor
