/-
  DERIVED. GIVEN WITH THE SEED: THE CARDS: each row of YtddajmagdjkodaaDoorRows.lean that lists a variable, with what it lists TIED to the program's text (the seventh form; the later family's looks); each row that meets fmt, with fmt's text TOLD by the authors' own Lean function (tested against real Go, not proved from fmt's source: count such statements apart). THE CARD IS WHAT COUNTS. Prove the row's statement (the work); the ties are given (YtddajmagdjkodaaDoorTie.lean); close each card by the builder's one call (the guide's Derived/Test/ToyasCard.lean, 'card_holds'). Laid BY PROGRAM, IN A SANDBOX (cutbox-door.mjs). By AI agents, Wed Nov 11 2026. No macro, syntax, notation, axiom, sorry.
-/
import Derived.Test.YtddajmagdjkodaaDoorRows
import GoSem.ClaimSeven
namespace Go.Proofs.YtddajmagdjkodaaDoor
namespace Rows

/-- THE TIED CARD OF 'waveplatelaw03.OpticsAgrees'. -/
def opticsAgreesCard : Claim7 := { stood := { row := opticsAgreesRow, standIns := [], harness := (true, "d9e16491f65dfa59d6b32cb82e6e20cd80f9ef41a1178f0a6a162be4108f6d82"), looks := false }, kinds := [], alts := [], laidByText := true, laidKinds := [.data, .data, .data], laidTests := true, laidLooks := .later }
def OpticsAgreesCardSaid : Prop := Claim7.holds Tryd.pinned (.plain (OpenSpec.ofChange opticsAgreesSpec)) opticsAgreesCard

/-- THE TIED CARD OF 'waveplatelaw03.OpticsDetects'. -/
def opticsDetectsCard : Claim7 := { stood := { row := opticsDetectsRow, standIns := [], harness := (true, "d9e16491f65dfa59d6b32cb82e6e20cd80f9ef41a1178f0a6a162be4108f6d82"), looks := false }, kinds := [], alts := [], laidByText := true, laidKinds := [.data, .data, .data], laidTests := true, laidLooks := .later }
def OpticsDetectsCardSaid : Prop := Claim7.holds Tryd.pinned (.plain (OpenSpec.ofChange opticsDetectsSpec)) opticsDetectsCard

/-- THE TIED CARD OF 'waveplatelaw03.OpticsEmits'. -/
def opticsEmitsCard : Claim7 := { stood := { row := opticsEmitsRow, standIns := [], harness := (true, "d9e16491f65dfa59d6b32cb82e6e20cd80f9ef41a1178f0a6a162be4108f6d82"), looks := false }, kinds := [], alts := [], laidByText := true, laidKinds := [.data, .data, .data], laidTests := true, laidLooks := .later }
def OpticsEmitsCardSaid : Prop := Claim7.holds Tryd.pinned (.plain (OpenSpec.ofChange opticsEmitsSpec)) opticsEmitsCard

/-- THE TIED CARD OF 'waveplatelaw03.OpticsCarries'. -/
def opticsCarriesCard : Claim7 := { stood := { row := opticsCarriesRow, standIns := [], harness := (true, "d9e16491f65dfa59d6b32cb82e6e20cd80f9ef41a1178f0a6a162be4108f6d82"), looks := false }, kinds := [], alts := [], laidByText := true, laidKinds := [.data, .data, .data], laidTests := true, laidLooks := .later }
def OpticsCarriesCardSaid : Prop := Claim7.holds Tryd.pinned (.plain (OpenSpec.ofChange opticsCarriesSpec)) opticsCarriesCard

/-- THE TIED CARD OF 'waveplatelaw03.OpticsNothing'. -/
def opticsNothingCard : Claim7 := { stood := { row := opticsNothingRow, standIns := [], harness := (true, "d9e16491f65dfa59d6b32cb82e6e20cd80f9ef41a1178f0a6a162be4108f6d82"), looks := false }, kinds := [], alts := [], laidByText := true, laidKinds := [.data, .data, .data], laidTests := true, laidLooks := .later }
def OpticsNothingCardSaid : Prop := Claim7.holds Tryd.pinned (.plain (OpenSpec.ofChange opticsNothingSpec)) opticsNothingCard

/-- THE TIED CARD OF 'waveplatelaw03.OpticsTexts'. -/
def opticsTextsCard : Claim7 := { stood := { row := opticsTextsRow, standIns := [], harness := (true, "d9e16491f65dfa59d6b32cb82e6e20cd80f9ef41a1178f0a6a162be4108f6d82"), looks := false }, kinds := [], alts := [], laidByText := true, laidKinds := [.data, .data, .data, .data, .pinned], laidTests := true, laidLooks := .later }
def OpticsTextsCardSaid : Prop := Claim7.holds Tryd.pinned (.plain (OpenSpec.ofChange opticsTextsSpec)) opticsTextsCard

/-- THE TIED CARD OF 'waveplatelaw03.OpticsParses'. -/
def opticsParsesCard : Claim7 := { stood := { row := opticsParsesRow, standIns := [], harness := (true, "d9e16491f65dfa59d6b32cb82e6e20cd80f9ef41a1178f0a6a162be4108f6d82"), looks := false }, kinds := [], alts := [], laidByText := true, laidKinds := [.data, .data, .data, .data, .pinned], laidTests := true, laidLooks := .later }
def OpticsParsesCardSaid : Prop := Claim7.holds Tryd.pinned (.plain (OpenSpec.ofChange opticsParsesSpec)) opticsParsesCard

/-- THE TIED CARD OF 'waveplatelaw03.OpticsRuns'. -/
def opticsRunsCard : Claim7 := { stood := { row := opticsRunsRow, standIns := [], harness := (true, "d9e16491f65dfa59d6b32cb82e6e20cd80f9ef41a1178f0a6a162be4108f6d82"), looks := false }, kinds := [], alts := [], laidByText := true, laidKinds := [.data, .data, .data], laidTests := true, laidLooks := .later }
def OpticsRunsCardSaid : Prop := Claim7.holds Tryd.pinned (.plain (OpenSpec.ofChange opticsRunsSpec)) opticsRunsCard

/-- THE TIED CARD OF 'waveplatelaw03.OpticsForces'. -/
def opticsForcesCard : Claim7 := { stood := { row := opticsForcesRow, standIns := [], harness := (true, "d9e16491f65dfa59d6b32cb82e6e20cd80f9ef41a1178f0a6a162be4108f6d82"), looks := false }, kinds := [], alts := [], laidByText := true, laidKinds := [.data, .data, .data], laidTests := true, laidLooks := .later }
def OpticsForcesCardSaid : Prop := Claim7.holds Tryd.pinned (.plain (OpenSpec.ofChange opticsForcesSpec)) opticsForcesCard

/-- THE TIED CARD OF 'waveplatelaw03.OpticsBegins'. -/
def opticsBeginsCard : Claim7 := { stood := { row := opticsBeginsRow, standIns := [], harness := (true, "d9e16491f65dfa59d6b32cb82e6e20cd80f9ef41a1178f0a6a162be4108f6d82"), looks := false }, kinds := [], alts := [], laidByText := true, laidKinds := [.data, .data, .data], laidTests := true, laidLooks := .later }
def OpticsBeginsCardSaid : Prop := Claim7.holds Tryd.pinned (.plain (OpenSpec.ofChange opticsBeginsSpec)) opticsBeginsCard

/-- THE TIED CARD OF 'waveplatelaw03.OpticsHonest'. -/
def opticsHonestCard : Claim7 := { stood := { row := opticsHonestRow, standIns := [], harness := (true, "d9e16491f65dfa59d6b32cb82e6e20cd80f9ef41a1178f0a6a162be4108f6d82"), looks := false }, kinds := [], alts := [], laidByText := true, laidKinds := [.data, .data, .data], laidTests := true, laidLooks := .later }
def OpticsHonestCardSaid : Prop := Claim7.holds Tryd.pinned (.plain (OpenSpec.ofChange opticsHonestSpec)) opticsHonestCard

/-- THE TIED CARD OF 'waveplatelaw03.OpticsShows'. -/
def opticsShowsCard : Claim7 := { stood := { row := opticsShowsRow, standIns := [], harness := (true, "d9e16491f65dfa59d6b32cb82e6e20cd80f9ef41a1178f0a6a162be4108f6d82"), looks := false }, kinds := [], alts := [], laidByText := true, laidKinds := [.data, .data, .data], laidTests := true, laidLooks := .later }
def OpticsShowsCardSaid : Prop := Claim7.holds Tryd.pinned (.plain (OpenSpec.ofChange opticsShowsSpec)) opticsShowsCard

/-- THE TIED CARD OF 'waveplatelaw03.OpticsReads'. -/
def opticsReadsCard : Claim7 := { stood := { row := opticsReadsRow, standIns := [], harness := (true, "d9e16491f65dfa59d6b32cb82e6e20cd80f9ef41a1178f0a6a162be4108f6d82"), looks := false }, kinds := [], alts := [], laidByText := true, laidKinds := [.data, .data, .data, .data, .pinned], laidTests := true, laidLooks := .later }
def OpticsReadsCardSaid : Prop := Claim7.holds Tryd.pinned (.plain (OpenSpec.ofChange opticsReadsSpec)) opticsReadsCard

/-- THE TIED CARD OF 'waveplatelaw03.OpticsSilent'. -/
def opticsSilentCard : Claim7 := { stood := { row := opticsSilentRow, standIns := [], harness := (true, "d9e16491f65dfa59d6b32cb82e6e20cd80f9ef41a1178f0a6a162be4108f6d82"), looks := false }, kinds := [], alts := [], laidByText := true, laidKinds := [.data, .data, .data], laidTests := true, laidLooks := .later }
def OpticsSilentCardSaid : Prop := Claim7.holds Tryd.pinned (.plain (OpenSpec.ofChange opticsSilentSpec)) opticsSilentCard

/-- THE TIED CARD OF 'waveplatelaw03.OpticsRules'. -/
def opticsRulesCard : Claim7 := { stood := { row := opticsRulesRow, standIns := [], harness := (true, "d9e16491f65dfa59d6b32cb82e6e20cd80f9ef41a1178f0a6a162be4108f6d82"), looks := false }, kinds := [], alts := [], laidByText := true, laidKinds := [.data, .data, .data, .data, .pinned], laidTests := true, laidLooks := .later }
def OpticsRulesCardSaid : Prop := Claim7.holds Tryd.pinned (.plain (OpenSpec.ofChange opticsRulesSpec)) opticsRulesCard

/-- THE SECOND FORM's CARD OF 'waveplatelaw03.OpticsAgrees'. -/
def opticsAgreesUptoCard : Claim7 := { stood := { row := opticsAgreesUptoRow, standIns := [], harness := (true, "d9e16491f65dfa59d6b32cb82e6e20cd80f9ef41a1178f0a6a162be4108f6d82"), looks := false }, kinds := [], alts := [], laidByText := true, laidKinds := [.data, .data, .data], laidTests := true, laidLooks := .later }
def OpticsAgreesUptoCardSaid : Prop := Claim7.holds Tryd.pinned (.plain (OpenSpec.upto opticsAgreesSpec)) opticsAgreesUptoCard

/-- THE SECOND FORM's CARD OF 'waveplatelaw03.OpticsDetects'. -/
def opticsDetectsUptoCard : Claim7 := { stood := { row := opticsDetectsUptoRow, standIns := [], harness := (true, "d9e16491f65dfa59d6b32cb82e6e20cd80f9ef41a1178f0a6a162be4108f6d82"), looks := false }, kinds := [], alts := [], laidByText := true, laidKinds := [.data, .data, .data], laidTests := true, laidLooks := .later }
def OpticsDetectsUptoCardSaid : Prop := Claim7.holds Tryd.pinned (.plain (OpenSpec.upto opticsDetectsSpec)) opticsDetectsUptoCard

/-- THE SECOND FORM's CARD OF 'waveplatelaw03.OpticsEmits'. -/
def opticsEmitsUptoCard : Claim7 := { stood := { row := opticsEmitsUptoRow, standIns := [], harness := (true, "d9e16491f65dfa59d6b32cb82e6e20cd80f9ef41a1178f0a6a162be4108f6d82"), looks := false }, kinds := [], alts := [], laidByText := true, laidKinds := [.data, .data, .data], laidTests := true, laidLooks := .later }
def OpticsEmitsUptoCardSaid : Prop := Claim7.holds Tryd.pinned (.plain (OpenSpec.upto opticsEmitsSpec)) opticsEmitsUptoCard

/-- THE SECOND FORM's CARD OF 'waveplatelaw03.OpticsCarries'. -/
def opticsCarriesUptoCard : Claim7 := { stood := { row := opticsCarriesUptoRow, standIns := [], harness := (true, "d9e16491f65dfa59d6b32cb82e6e20cd80f9ef41a1178f0a6a162be4108f6d82"), looks := false }, kinds := [], alts := [], laidByText := true, laidKinds := [.data, .data, .data], laidTests := true, laidLooks := .later }
def OpticsCarriesUptoCardSaid : Prop := Claim7.holds Tryd.pinned (.plain (OpenSpec.upto opticsCarriesSpec)) opticsCarriesUptoCard

/-- THE SECOND FORM's CARD OF 'waveplatelaw03.OpticsNothing'. -/
def opticsNothingUptoCard : Claim7 := { stood := { row := opticsNothingUptoRow, standIns := [], harness := (true, "d9e16491f65dfa59d6b32cb82e6e20cd80f9ef41a1178f0a6a162be4108f6d82"), looks := false }, kinds := [], alts := [], laidByText := true, laidKinds := [.data, .data, .data], laidTests := true, laidLooks := .later }
def OpticsNothingUptoCardSaid : Prop := Claim7.holds Tryd.pinned (.plain (OpenSpec.upto opticsNothingSpec)) opticsNothingUptoCard

/-- THE SECOND FORM's CARD OF 'waveplatelaw03.OpticsTexts'. -/
def opticsTextsUptoCard : Claim7 := { stood := { row := opticsTextsUptoRow, standIns := [], harness := (true, "d9e16491f65dfa59d6b32cb82e6e20cd80f9ef41a1178f0a6a162be4108f6d82"), looks := false }, kinds := [], alts := [], laidByText := true, laidKinds := [.data, .data, .data, .data, .pinned], laidTests := true, laidLooks := .later }
def OpticsTextsUptoCardSaid : Prop := Claim7.holds Tryd.pinned (.plain (OpenSpec.upto opticsTextsSpec)) opticsTextsUptoCard

/-- THE SECOND FORM's CARD OF 'waveplatelaw03.OpticsParses'. -/
def opticsParsesUptoCard : Claim7 := { stood := { row := opticsParsesUptoRow, standIns := [], harness := (true, "d9e16491f65dfa59d6b32cb82e6e20cd80f9ef41a1178f0a6a162be4108f6d82"), looks := false }, kinds := [], alts := [], laidByText := true, laidKinds := [.data, .data, .data, .data, .pinned], laidTests := true, laidLooks := .later }
def OpticsParsesUptoCardSaid : Prop := Claim7.holds Tryd.pinned (.plain (OpenSpec.upto opticsParsesSpec)) opticsParsesUptoCard

/-- THE SECOND FORM's CARD OF 'waveplatelaw03.OpticsRuns'. -/
def opticsRunsUptoCard : Claim7 := { stood := { row := opticsRunsUptoRow, standIns := [], harness := (true, "d9e16491f65dfa59d6b32cb82e6e20cd80f9ef41a1178f0a6a162be4108f6d82"), looks := false }, kinds := [], alts := [], laidByText := true, laidKinds := [.data, .data, .data], laidTests := true, laidLooks := .later }
def OpticsRunsUptoCardSaid : Prop := Claim7.holds Tryd.pinned (.plain (OpenSpec.upto opticsRunsSpec)) opticsRunsUptoCard

/-- THE SECOND FORM's CARD OF 'waveplatelaw03.OpticsForces'. -/
def opticsForcesUptoCard : Claim7 := { stood := { row := opticsForcesUptoRow, standIns := [], harness := (true, "d9e16491f65dfa59d6b32cb82e6e20cd80f9ef41a1178f0a6a162be4108f6d82"), looks := false }, kinds := [], alts := [], laidByText := true, laidKinds := [.data, .data, .data], laidTests := true, laidLooks := .later }
def OpticsForcesUptoCardSaid : Prop := Claim7.holds Tryd.pinned (.plain (OpenSpec.upto opticsForcesSpec)) opticsForcesUptoCard

/-- THE SECOND FORM's CARD OF 'waveplatelaw03.OpticsBegins'. -/
def opticsBeginsUptoCard : Claim7 := { stood := { row := opticsBeginsUptoRow, standIns := [], harness := (true, "d9e16491f65dfa59d6b32cb82e6e20cd80f9ef41a1178f0a6a162be4108f6d82"), looks := false }, kinds := [], alts := [], laidByText := true, laidKinds := [.data, .data, .data], laidTests := true, laidLooks := .later }
def OpticsBeginsUptoCardSaid : Prop := Claim7.holds Tryd.pinned (.plain (OpenSpec.upto opticsBeginsSpec)) opticsBeginsUptoCard

/-- THE SECOND FORM's CARD OF 'waveplatelaw03.OpticsHonest'. -/
def opticsHonestUptoCard : Claim7 := { stood := { row := opticsHonestUptoRow, standIns := [], harness := (true, "d9e16491f65dfa59d6b32cb82e6e20cd80f9ef41a1178f0a6a162be4108f6d82"), looks := false }, kinds := [], alts := [], laidByText := true, laidKinds := [.data, .data, .data], laidTests := true, laidLooks := .later }
def OpticsHonestUptoCardSaid : Prop := Claim7.holds Tryd.pinned (.plain (OpenSpec.upto opticsHonestSpec)) opticsHonestUptoCard

/-- THE SECOND FORM's CARD OF 'waveplatelaw03.OpticsShows'. -/
def opticsShowsUptoCard : Claim7 := { stood := { row := opticsShowsUptoRow, standIns := [], harness := (true, "d9e16491f65dfa59d6b32cb82e6e20cd80f9ef41a1178f0a6a162be4108f6d82"), looks := false }, kinds := [], alts := [], laidByText := true, laidKinds := [.data, .data, .data], laidTests := true, laidLooks := .later }
def OpticsShowsUptoCardSaid : Prop := Claim7.holds Tryd.pinned (.plain (OpenSpec.upto opticsShowsSpec)) opticsShowsUptoCard

/-- THE SECOND FORM's CARD OF 'waveplatelaw03.OpticsReads'. -/
def opticsReadsUptoCard : Claim7 := { stood := { row := opticsReadsUptoRow, standIns := [], harness := (true, "d9e16491f65dfa59d6b32cb82e6e20cd80f9ef41a1178f0a6a162be4108f6d82"), looks := false }, kinds := [], alts := [], laidByText := true, laidKinds := [.data, .data, .data, .data, .pinned], laidTests := true, laidLooks := .later }
def OpticsReadsUptoCardSaid : Prop := Claim7.holds Tryd.pinned (.plain (OpenSpec.upto opticsReadsSpec)) opticsReadsUptoCard

/-- THE SECOND FORM's CARD OF 'waveplatelaw03.OpticsSilent'. -/
def opticsSilentUptoCard : Claim7 := { stood := { row := opticsSilentUptoRow, standIns := [], harness := (true, "d9e16491f65dfa59d6b32cb82e6e20cd80f9ef41a1178f0a6a162be4108f6d82"), looks := false }, kinds := [], alts := [], laidByText := true, laidKinds := [.data, .data, .data], laidTests := true, laidLooks := .later }
def OpticsSilentUptoCardSaid : Prop := Claim7.holds Tryd.pinned (.plain (OpenSpec.upto opticsSilentSpec)) opticsSilentUptoCard

/-- THE SECOND FORM's CARD OF 'waveplatelaw03.OpticsRules'. -/
def opticsRulesUptoCard : Claim7 := { stood := { row := opticsRulesUptoRow, standIns := [], harness := (true, "d9e16491f65dfa59d6b32cb82e6e20cd80f9ef41a1178f0a6a162be4108f6d82"), looks := false }, kinds := [], alts := [], laidByText := true, laidKinds := [.data, .data, .data, .data, .pinned], laidTests := true, laidLooks := .later }
def OpticsRulesUptoCardSaid : Prop := Claim7.holds Tryd.pinned (.plain (OpenSpec.upto opticsRulesSpec)) opticsRulesUptoCard
end Rows
end Go.Proofs.YtddajmagdjkodaaDoor
