/-
  A channel that only splits and starves makes no errors, and the eavesdropper knows just the pulses with at least 2 photons in the slots of a split.
-/
import Derived.Test.YtddajmagdjkodaaDoorCards
import Derived.Test.YtddajmagdjkodaaDoorTie
import Derived.SevenTiedAt
import Derived.Test.YtddajmagdjkodaaDoorLawSilentA
import Derived.Test.YtddajmagdjkodaaDoorLawSilentC
namespace Go.Proofs.YtddajmagdjkodaaDoor.opticsSilent
open Go.ChangeShapes Go.WideShapes Go.ChangeAt Go.RowKit

theorem over : Rows.opticsSilentRow.holds Tryd.pinned (OpenSpec.ofChange Rows.opticsSilentSpec) :=
  OpenClaim.holds_of_wide 16 Tryd.f16 rfl rfl rfl rfl rfl rfl rfl ⟨rfl, rfl, rfl, rfl, rfl⟩ rfl rfl rfl rfl rfl (by kernel_rfl) Tryd.func16 closed
    (of_decide_eq_true (by kernel_rfl)) (by unfold Func.isWrapper; first | (rw [if_pos (by decide +kernel)]; kernel_rfl) | (rw [if_neg (by decide +kernel)]; exact ⟨rfl, rfl⟩))
    (fun os started H enc _ => lifted os started H enc)

/-- The tied card. -/
theorem proved : Rows.OpticsSilentCardSaid :=
  Claim7.holds_tied_plain_at .later [] [.data, .data, .data] true (true, "d9e16491f65dfa59d6b32cb82e6e20cd80f9ef41a1178f0a6a162be4108f6d82") false
    over (fun _ h => by cases h) (by kernel_rfl) (fun _ h => by cases h) opticsSilent_row_tie rfl ⟨rfl, rfl⟩ (by kernel_rfl) rfl
    (fun f fn hf hfn => by
      obtain rfl : f = 16 := Option.some.inj ((show Tryd.prog.funcNamed "waveplate/waveplatelaw03.OpticsSilent" = some 16 by kernel_rfl).symm.trans hf) |>.symm
      obtain rfl : fn = Tryd.f16 := (Option.some.inj (Tryd.func16.symm.trans hfn)).symm
      exact ⟨by kernel_rfl, fun j t ht => by
        rw [Tryd.params16] at ht
        have hm : t ∈ [40, 57, 5, 42, 42, 42] := by simpa using Array.mem_of_getElem? ht
        have hall : ([40, 57, 5, 42, 42, 42].all fun u => !Tryd.prog.wantsStandIn u) = true := by kernel_rfl
        exact (show Tryd.prog.wantsStandIn t = false by simpa using List.all_eq_true.1 hall t hm)⟩)
    (by kernel_rfl)
#print axioms proved
end Go.Proofs.YtddajmagdjkodaaDoor.opticsSilent
