/-
  Run is Emit, Carry and Detect, one after the other, with the errors in their order.
-/
import Derived.Test.YtddajmagdjkodaaDoorCards
import Derived.Test.YtddajmagdjkodaaDoorTie
import Derived.SevenTiedAt
import Derived.Test.YtddajmagdjkodaaDoorLawRunsA
import Derived.Test.YtddajmagdjkodaaDoorLawRunsC
namespace Go.Proofs.YtddajmagdjkodaaDoor.opticsRuns
open Go.ChangeShapes Go.WideShapes Go.ChangeAt Go.RowKit

theorem over : Rows.opticsRunsRow.holds Tryd.pinned (OpenSpec.ofChange Rows.opticsRunsSpec) :=
  OpenClaim.holds_of_wide 10 Tryd.f10 rfl rfl rfl rfl rfl rfl rfl ⟨rfl, rfl, rfl, rfl, rfl⟩ rfl rfl rfl rfl rfl (by kernel_rfl) Tryd.func10 closed
    (of_decide_eq_true (by kernel_rfl)) (by unfold Func.isWrapper; first | (rw [if_pos (by decide +kernel)]; kernel_rfl) | (rw [if_neg (by decide +kernel)]; exact ⟨rfl, rfl⟩))
    (fun os started H enc _ => lifted os started H enc)

/-- The tied card. -/
theorem proved : Rows.OpticsRunsCardSaid :=
  Claim7.holds_tied_plain_at .later [] [.data, .data, .data] true (true, "d9e16491f65dfa59d6b32cb82e6e20cd80f9ef41a1178f0a6a162be4108f6d82") false
    over (fun _ h => by cases h) (by kernel_rfl) (fun _ h => by cases h) opticsRuns_row_tie rfl ⟨rfl, rfl⟩ (by kernel_rfl) rfl
    (fun f fn hf hfn => by
      obtain rfl : f = 10 := Option.some.inj ((show Tryd.prog.funcNamed "waveplate/waveplatelaw03.OpticsRuns" = some 10 by kernel_rfl).symm.trans hf) |>.symm
      obtain rfl : fn = Tryd.f10 := (Option.some.inj (Tryd.func10.symm.trans hfn)).symm
      exact ⟨by kernel_rfl, fun j t ht => by
        rw [Tryd.params10] at ht
        have hm : t ∈ [40, 51, 3, 42, 42, 42] := by simpa using Array.mem_of_getElem? ht
        have hall : ([40, 51, 3, 42, 42, 42].all fun u => !Tryd.prog.wantsStandIn u) = true := by kernel_rfl
        exact (show Tryd.prog.wantsStandIn t = false by simpa using List.all_eq_true.1 hall t hm)⟩)
    (by kernel_rfl)
#print axioms proved
end Go.Proofs.YtddajmagdjkodaaDoor.opticsRuns
