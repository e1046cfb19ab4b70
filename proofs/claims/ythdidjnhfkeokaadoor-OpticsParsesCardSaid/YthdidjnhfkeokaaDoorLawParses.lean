/-
  The law OpticsParses (waveplatelaw03): for every text, Parse returns what the document says. No condition.
-/
import Derived.Test.YthdidjnhfkeokaaDoorCards
import Derived.Test.YthdidjnhfkeokaaDoorTie
import Derived.SevenTiedAt
import Derived.Test.YthdidjnhfkeokaaDoorLawParsesA
import Derived.Test.YthdidjnhfkeokaaDoorLawParsesC
namespace Go.Proofs.YthdidjnhfkeokaaDoor.opticsParses
open Go.ChangeShapes Go.WideShapes Go.ChangeAt Go.RowKit

theorem over : Rows.opticsParsesRow.holds Tryd.pinned (OpenSpec.ofChange Rows.opticsParsesSpec) :=
  OpenClaim.holds_of_wide 4 Tryd.f4 rfl rfl rfl rfl rfl rfl rfl ⟨rfl, rfl, rfl, rfl, rfl⟩ rfl rfl rfl rfl rfl (by kernel_rfl) Tryd.func4 closed
    (of_decide_eq_true (by kernel_rfl)) (by unfold Func.isWrapper; first | (rw [if_pos (by decide +kernel)]; kernel_rfl) | (rw [if_neg (by decide +kernel)]; exact ⟨rfl, rfl⟩))
    (fun os started H enc _ => lifted os started H enc)

/-- The tied card. -/
theorem proved : Rows.OpticsParsesCardSaid :=
  Claim7.holds_tied_plain_at .later [] [.data, .data, .data, .data, .pinned] true (true, "67b2453d59177de9b9bf7fdbb9700f8ba314a0474df4a4194faa6fb61aad9fa1") false
    over (fun _ h => by cases h) (by kernel_rfl) (fun _ h => by cases h) opticsParses_row_tie rfl ⟨rfl, rfl⟩ (by kernel_rfl) rfl
    (fun f fn hf hfn => by
      obtain rfl : f = 4 := Option.some.inj ((show Tryd.prog.funcNamed "waveplate/waveplatelaw03.OpticsParses" = some 4 by kernel_rfl).symm.trans hf) |>.symm
      obtain rfl : fn = Tryd.f4 := (Option.some.inj (Tryd.func4.symm.trans hfn)).symm
      exact ⟨by kernel_rfl, fun j t ht => by
        rw [Tryd.params4] at ht
        have hm : t ∈ [9] := by simpa using Array.mem_of_getElem? ht
        have hall : ([9].all fun u => !Tryd.prog.wantsStandIn u) = true := by kernel_rfl
        exact (show Tryd.prog.wantsStandIn t = false by simpa using List.all_eq_true.1 hall t hm)⟩)
    (by kernel_rfl)
#print axioms proved
end Go.Proofs.YthdidjnhfkeokaaDoor.opticsParses
