/-
  The basis and the bit of pulses without photons do not matter; a channel that loses everything leaves no light, and no click but dark ones.
-/
import Derived.Test.YtddajmagdjkodaaDoorCards
import Derived.Test.YtddajmagdjkodaaDoorTie
import Derived.SevenTiedAt
import Derived.Test.YtddajmagdjkodaaDoorLawNothingA
import Derived.Test.YtddajmagdjkodaaDoorLawNothingC
namespace Go.Proofs.YtddajmagdjkodaaDoor.opticsNothing
open Go.ChangeShapes Go.WideShapes Go.ChangeAt Go.RowKit

theorem over : Rows.opticsNothingRow.holds Tryd.pinned (OpenSpec.ofChange Rows.opticsNothingSpec) :=
  OpenClaim.holds_of_wide 7 Tryd.f7 rfl rfl rfl rfl rfl rfl rfl ⟨rfl, rfl, rfl, rfl, rfl⟩ rfl rfl rfl rfl rfl (by kernel_rfl) Tryd.func7 closed
    (of_decide_eq_true (by kernel_rfl)) (by unfold Func.isWrapper; first | (rw [if_pos (by decide +kernel)]; kernel_rfl) | (rw [if_neg (by decide +kernel)]; exact ⟨rfl, rfl⟩))
    (fun os started H enc _ => lifted os started H enc)

/-- The tied card. -/
theorem proved : Rows.OpticsNothingCardSaid :=
  Claim7.holds_tied_plain_at .later [] [.data, .data, .data] true (true, "d9e16491f65dfa59d6b32cb82e6e20cd80f9ef41a1178f0a6a162be4108f6d82") false
    over (fun _ h => by cases h) (by kernel_rfl) (fun _ h => by cases h) opticsNothing_row_tie rfl ⟨rfl, rfl⟩ (by kernel_rfl) rfl
    (fun f fn hf hfn => by
      obtain rfl : f = 7 := Option.some.inj ((show Tryd.prog.funcNamed "waveplate/waveplatelaw03.OpticsNothing" = some 7 by kernel_rfl).symm.trans hf) |>.symm
      obtain rfl : fn = Tryd.f7 := (Option.some.inj (Tryd.func7.symm.trans hfn)).symm
      exact ⟨by kernel_rfl, fun j t ht => by
        rw [Tryd.params7] at ht
        have hm : t ∈ [22, 57, 42, 5] := by simpa using Array.mem_of_getElem? ht
        have hall : ([22, 57, 42, 5].all fun u => !Tryd.prog.wantsStandIn u) = true := by kernel_rfl
        exact (show Tryd.prog.wantsStandIn t = false by simpa using List.all_eq_true.1 hall t hm)⟩)
    (by kernel_rfl)
#print axioms proved
end Go.Proofs.YtddajmagdjkodaaDoor.opticsNothing
