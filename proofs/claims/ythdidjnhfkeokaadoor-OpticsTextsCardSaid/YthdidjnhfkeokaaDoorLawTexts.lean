/-
  The law OpticsTexts (waveplatelaw03): for every arrangement, Check and Text return what the document says, and a valid one is read from its text. No condition.
-/
import Derived.Test.YthdidjnhfkeokaaDoorCards
import Derived.Test.YthdidjnhfkeokaaDoorTie
import Derived.SevenTiedAt
import Derived.Test.YthdidjnhfkeokaaDoorLawTextsA
import Derived.Test.YthdidjnhfkeokaaDoorLawTextsC
namespace Go.Proofs.YthdidjnhfkeokaaDoor.opticsTexts
open Go.ChangeShapes Go.WideShapes Go.ChangeAt Go.RowKit

theorem over : Rows.opticsTextsRow.holds Tryd.pinned (OpenSpec.ofChange Rows.opticsTextsSpec) :=
  OpenClaim.holds_of_wide 3 Tryd.f3 rfl rfl rfl rfl rfl rfl rfl ⟨rfl, rfl, rfl, rfl, rfl⟩ rfl rfl rfl rfl rfl (by kernel_rfl) Tryd.func3 closed
    (of_decide_eq_true (by kernel_rfl)) (by unfold Func.isWrapper; first | (rw [if_pos (by decide +kernel)]; kernel_rfl) | (rw [if_neg (by decide +kernel)]; exact ⟨rfl, rfl⟩))
    (fun os started H enc _ => lifted os started H enc)

/-- The tied card. -/
theorem proved : Rows.OpticsTextsCardSaid :=
  Claim7.holds_tied_plain_at .later [] [.data, .data, .data, .data, .pinned] true (true, "67b2453d59177de9b9bf7fdbb9700f8ba314a0474df4a4194faa6fb61aad9fa1") false
    over (fun _ h => by cases h) (by kernel_rfl) (fun _ h => by cases h) opticsTexts_row_tie rfl ⟨rfl, rfl⟩ (by kernel_rfl) rfl
    (fun f fn hf hfn => by
      obtain rfl : f = 3 := Option.some.inj ((show Tryd.prog.funcNamed "waveplate/waveplatelaw03.OpticsTexts" = some 3 by kernel_rfl).symm.trans hf) |>.symm
      obtain rfl : fn = Tryd.f3 := (Option.some.inj (Tryd.func3.symm.trans hfn)).symm
      exact ⟨by kernel_rfl, fun j t ht => by
        rw [Tryd.params3] at ht
        have hm : t ∈ [26] := by simpa using Array.mem_of_getElem? ht
        have hall : ([26].all fun u => !Tryd.prog.wantsStandIn u) = true := by kernel_rfl
        exact (show Tryd.prog.wantsStandIn t = false by simpa using List.all_eq_true.1 hall t hm)⟩)
    (by kernel_rfl)
#print axioms proved
end Go.Proofs.YthdidjnhfkeokaaDoor.opticsTexts
