/-
  The law OpticsShows (waveplatelaw03): with rules that measure, lose and split alone, slots that agree differ only where the eavesdropper measured in another basis than that of the pulse; where all her notes have its basis, they have its bit. No condition.
-/
import Derived.Test.YthdidjnhfkeokaaDoorCards
import Derived.Test.YthdidjnhfkeokaaDoorTie
import Derived.SevenTiedAt
import Derived.Test.YthdidjnhfkeokaaDoorLawShowsA
import Derived.Test.YthdidjnhfkeokaaDoorLawShowsC
namespace Go.Proofs.YthdidjnhfkeokaaDoor.opticsShows
open Go.ChangeShapes Go.WideShapes Go.ChangeAt Go.RowKit

theorem over : Rows.opticsShowsRow.holds Tryd.pinned (OpenSpec.ofChange Rows.opticsShowsSpec) :=
  OpenClaim.holds_of_wide 5 Tryd.f5 rfl rfl rfl rfl rfl rfl rfl ⟨rfl, rfl, rfl, rfl, rfl⟩ rfl rfl rfl rfl rfl (by kernel_rfl) Tryd.func5 closed
    (of_decide_eq_true (by kernel_rfl)) (by unfold Func.isWrapper; first | (rw [if_pos (by decide +kernel)]; kernel_rfl) | (rw [if_neg (by decide +kernel)]; exact ⟨rfl, rfl⟩))
    (fun os started H enc _ => lifted os started H enc)

/-- The tied card. -/
theorem proved : Rows.OpticsShowsCardSaid :=
  Claim7.holds_tied_plain_at .later [] [.data, .data, .data] true (true, "67b2453d59177de9b9bf7fdbb9700f8ba314a0474df4a4194faa6fb61aad9fa1") false
    over (fun _ h => by cases h) (by kernel_rfl) (fun _ h => by cases h) opticsShows_row_tie rfl ⟨rfl, rfl⟩ (by kernel_rfl) rfl
    (fun f fn hf hfn => by
      obtain rfl : f = 5 := Option.some.inj ((show Tryd.prog.funcNamed "waveplate/waveplatelaw03.OpticsShows" = some 5 by kernel_rfl).symm.trans hf) |>.symm
      obtain rfl : fn = Tryd.f5 := (Option.some.inj (Tryd.func5.symm.trans hfn)).symm
      exact ⟨by kernel_rfl, fun j t ht => by
        rw [Tryd.params5] at ht
        have hm : t ∈ [26, 36, 5, 37, 37, 37] := by simpa using Array.mem_of_getElem? ht
        have hall : ([26, 36, 5, 37, 37, 37].all fun u => !Tryd.prog.wantsStandIn u) = true := by kernel_rfl
        exact (show Tryd.prog.wantsStandIn t = false by simpa using List.all_eq_true.1 hall t hm)⟩)
    (by kernel_rfl)
#print axioms proved
end Go.Proofs.YthdidjnhfkeokaaDoor.opticsShows
