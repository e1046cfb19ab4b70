/-
  The law ExactLaws: sums and products of numbers of at most 16 limbs may be exchanged, grouped and multiplied out; quotient, remainder and divisor fit. Condition: none.
-/
import Derived.Test.YtgilhkdmgbeieaaRows
import Derived.WalkKit
import Derived.ProofKit
import Derived.OpenShut
import Derived.Test.YtgilhkdmgbeieaaPost
import Derived.Test.YtgilhkdmgbeieaaFr
import Derived.Test.YtgilhkdmgbeieaaLj
namespace Go.Proofs.Ytgilhkdmgbeieaa.exactLaws
open Go.ChangeShapes Go.WideShapes Go.ChangeAt Go.RowKit
set_option linter.unusedVariables false

theorem own : ownKnob Try.prog.godebug = none := by kernel_rfl
theorem laidOut : laidOutB Try.prog = true := by kernel_rfl

set_option maxRecDepth 100000 in
theorem lifted (os : Os) (started : os.Started) (H : Type) (enc : TypeId × Value → H) :
    ReturnsInHanded {} Try.checked os 13 .any (Rows.exactLawsSpec.pre6 enc Try.prog Try.f13 Rows.exactLawsRow.domain false) (Rows.exactLawsSpec.post enc Try.prog Try.f13 false true false false) := by
  refine returnsInHanded_of_change (C := Try.checked) own started (by kernel_rfl) Try.func13
    (ChangeSpec.witness6 (enc := enc) (C := Try.checked) false ⟨#[], #[.slice none 0 0, .slice none 0 0, .slice none 0 0], []⟩ 8 (by kernel_rfl) (by kernel_rfl) (by kernel_rfl) (by kernel_rfl)) ?_
  intro W base args ds gs before hval0 hW hcnd _
  have hval : ∀ (j : Nat) t v, Try.f13.params[j]? = some t → args[j]? = some v → Value.okWide Try.prog W .any base t v := hval0
  have hW' := hW
  obtain ⟨p, q, hA0, hV, rfl, hfz, hnd⟩ := hW
  have hA : DataW.TrodAll enc Try.prog W 0 (fun _ => true) true Try.f13.params.toList args.toList ds p := hA0
  rw [Try.params13] at hA hval
  obtain ⟨v0, vs0, d0, ds0, p0, q0, hargs, rfl, rfl, h0, r0⟩ := trodAll_cons hA
  obtain ⟨v1, vs1, d1, ds1, p1, q1, rfl, rfl, rfl, h1, r1⟩ := trodAll_cons r0
  obtain ⟨v2, vs2, d2, ds2, p2, q2, rfl, rfl, rfl, h2, r2⟩ := trodAll_cons r1
  obtain ⟨rfl, rfl, rfl⟩ := trodAll_nil r2
  obtain rfl : args = #[v0, v1, v2] := by cases args; simp_all
  obtain ⟨rfl, rfl⟩ := trodVars_none hV
  have hlt := hW'.lt
  obtain ⟨A0, n0, c0, l0, rfl, s0, g0⟩ := open_nat Try.underlying23 Try.underlying58 (by kernel_rfl) (hval 0 23 v0 rfl rfl) h0
  obtain ⟨A1, n1, c1, l1, rfl, s1, g1⟩ := open_nat Try.underlying23 Try.underlying58 (by kernel_rfl) (hval 1 23 v1 rfl rfl) h1
  obtain ⟨A2, n2, c2, l2, rfl, s2, g2⟩ := open_nat Try.underlying23 Try.underlying58 (by kernel_rfl) (hval 2 23 v2 rfl rfl) h2
  clear hval0
  simp only [List.append_nil] at hW' hlt hA0
  refine (laws_w W A0 n0 c0 l0 s0 g0 A1 n1 c1 l1 s1 g1 A2 n2 c2 l2 s2 g2).mono fun e W' ⟨he, hg⟩ => ?_
  subst he
  exact ⟨_, rfl, post_of_below (pv := []) hW' (fun _ _ _ => (trodAll_cons_mk (shut_bool Try.underlying4 _) trodAll_mk0)) (fun sp hsp => trodAll_keep laidOut hg (by rw [Try.params13]; kernel_rfl) hA0 hlt hsp) (fun _ _ => rfl) (by simp)
    hg (ok_one (by kernel_rfl) rfl (okWide_bool_mk Try.underlying4 _))⟩

theorem over : Rows.exactLawsRow.holds Try.pinned (OpenSpec.ofChange Rows.exactLawsSpec) :=
  OpenClaim.holds_of_wide 13 Try.f13 rfl rfl rfl rfl rfl rfl rfl ⟨rfl, rfl, rfl, rfl, rfl⟩ rfl rfl rfl rfl rfl (by kernel_rfl) Try.func13 (by kernel_rfl)
    (of_decide_eq_true (by kernel_rfl)) (by unfold Func.isWrapper; first | (rw [if_pos (by decide +kernel)]; kernel_rfl) | (rw [if_neg (by decide +kernel)]; exact ⟨rfl, rfl⟩))
    (fun os started H enc _ => lifted os started H enc)

theorem proved : Rows.ExactLawsSaid :=
  over
#print axioms proved
end Go.Proofs.Ytgilhkdmgbeieaa.exactLaws
