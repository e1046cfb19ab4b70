/-
  The law OpticsRules (waveplatelaw03): for every list of rules, CheckRule, CheckRules, Line, Script and Shift return what the document says, and a channel is read from its text. No condition.
-/
import Derived.Test.YthdidjnhfkeokaaDoorCards
import Derived.Test.YthdidjnhfkeokaaDoorTie
import Derived.SevenTiedAt
import Derived.Test.YthdidjnhfkeokaaDoorLawRulesA
import Derived.Test.YthdidjnhfkeokaaDoorLawRulesC
namespace Go.Proofs.YthdidjnhfkeokaaDoor.opticsRules
open Go.ChangeShapes Go.WideShapes Go.ChangeAt Go.RowKit

theorem over : Rows.opticsRulesRow.holds Tryd.pinned (OpenSpec.ofChange Rows.opticsRulesSpec) :=
  OpenClaim.holds_of_wide 7 Tryd.f7 rfl rfl rfl rfl rfl rfl rfl ⟨rfl, rfl, rfl, rfl, rfl⟩ rfl rfl rfl rfl rfl (by kernel_rfl) Tryd.func7 closed
    (of_decide_eq_true (by kernel_rfl)) (by unfold Func.isWrapper; first | (rw [if_pos (by decide +kernel)]; kernel_rfl) | (rw [if_neg (by decide +kernel)]; exact ⟨rfl, rfl⟩))
    (fun os started H enc _ => lifted os started H enc)

/-- The tied card. -/
theorem proved : Rows.OpticsRulesCardSaid :=
  Claim7.holds_tied_plain_at .later [] [.data, .data, .data, .data, .pinned] true (true, "67b2453d59177de9b9bf7fdbb9700f8ba314a0474df4a4194faa6fb61aad9fa1") false
    over (fun _ h => by cases h) (by kernel_rfl) (fun _ h => by cases h) opticsRules_row_tie rfl ⟨rfl, rfl⟩ (by kernel_rfl) rfl
    (fun f fn hf hfn => by
      obtain rfl : f = 7 := Option.some.inj ((show Tryd.prog.funcNamed "waveplate/waveplatelaw03.OpticsRules" = some 7 by kernel_rfl).symm.trans hf) |>.symm
      obtain rfl : fn = Tryd.f7 := (Option.some.inj (Tryd.func7.symm.trans hfn)).symm
      exact ⟨by kernel_rfl, fun j t ht => by
        rw [Tryd.params7] at ht
        have hm : t ∈ [45] := by simpa using Array.mem_of_getElem? ht
        have hall : ([45].all fun u => !Tryd.prog.wantsStandIn u) = true := by kernel_rfl
        exact (show Tryd.prog.wantsStandIn t = false by simpa using List.all_eq_true.1 hall t hm)⟩)
    (by kernel_rfl)
#print axioms proved
end Go.Proofs.YthdidjnhfkeokaaDoor.opticsRules
