/- The walk of the law ExactOf. -/
import Derived.Test.YtgilhkdmgbeieaaRi
import Derived.Test.YtgilhkdmgbeieaaWo
import Derived.Test.YtgilhkdmgbeieaaOb
import Derived.Test.YtgilhkdmgbeieaaOc
namespace Go.Proofs.Ytgilhkdmgbeieaa
open Go.RowKit

set_option maxHeartbeats 1600000 in
theorem of_w (N : Nat) (w : World) (hN : N < 18446744073709551616) :
    Calls Try.prog 6 #[.int .u64 N] w fun e w' => e = .returned (.bool true) ∧ Below w.heap.size w w' := by
  go_enter Try.func6, Try.ntmps6
  go_wp2_with fail
  refine (of_c N w hN).mono ?_
  rintro e w1 ⟨g, n, c, l, rfl, o1, N1, hb1⟩
  have hl : n ≤ 2 := by rw [← o1.len]; exact (N1.length_le (by omega) 2).2 (by omega)
  have hsm := xsmall_c _ _ _ _ w1 _ o1.sl N1.dig
  rw [N1.val_, show smallV n N = N from if_pos ⟨by omega, hN⟩, show smallE n N = 0 by simp [smallE, hN]; omega] at hsm
  go_wp2_with fail
  refine hsm.mono ?_
  rintro e w' ⟨rfl, rfl⟩
  clear hsm
  go_wp2_with fail
  refine (rof_c N w1 hN).mono ?_
  rintro e w2 ⟨A2, n2, c2, l2, rfl, s2, N2, hb2⟩
  obtain rfl := N1.uniq N2 (by omega)
  have s1 := (o1.sl.below hb2).mono hb2.size
  have hbw2 := hb1.trans (hb2.mono hb1.size)
  go_wp2_with fail
  refine (rsame_c _ _ _ _ _ _ _ _ w2 _ s1 s2).mono ?_
  rintro e w' ⟨rfl, q, rfl⟩
  have hb3 := below_drewN hbw2 q
  rw [show decide (l = l) = true by simp]
  go_wp2_with fail
  refine (works_c _).mono ?_
  rintro e w5 ⟨rfl, hb5⟩
  go_wp2
  go_ret
  exact ⟨rfl, hb3.trans (hb5.mono hb3.size)⟩
end Go.Proofs.Ytgilhkdmgbeieaa
