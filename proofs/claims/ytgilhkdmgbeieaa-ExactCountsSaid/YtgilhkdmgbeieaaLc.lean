/- The walk of the law ExactCounts. -/
import Derived.Test.YtgilhkdmgbeieaaOe
import Derived.Test.YtgilhkdmgbeieaaWo
namespace Go.Proofs.Ytgilhkdmgbeieaa
open Go.RowKit

set_option maxHeartbeats 1600000 in
theorem counts_w (n k : Int) (w : World) (h1 : -9223372036854775808 ≤ k) (h2 : k ≤ 9223372036854775807) :
    Calls Try.prog 7 #[.int .i64 n, .int .i64 k] w fun e w' => e = .returned (.bool true) ∧ Below w.heap.size w w' := by
  go_enter Try.func7, Try.ntmps7
  go_wp2_with fail
  refine (xbin_c n k w h1 h2).mono ?_
  rintro e w1 ⟨A1, n1, c1, l1, e1, rfl, s1, S1, hb1⟩
  go_wp2_with fail
  refine (rbin_c n k w1).mono ?_
  rintro e w2 ⟨A2, n2, c2, l2, e2, rfl, s2, S2, hb2⟩
  obtain ⟨rfl, rfl⟩ := S1.uniq S2
  have s1' := (s1.below hb2).mono hb2.size
  have hbw2 := hb1.trans (hb2.mono hb1.size)
  clear s1 S1 S2 hb1 hb2
  go_wp2_with fail
  refine (lnum_c _ _ _ _ _ _ _ _ w2 s1' s2).mono ?_
  rintro e w3 ⟨rfl, q, rfl⟩
  have hbw3 := below_drewN hbw2 q
  clear s1' s2 hbw2
  obtain ⟨w3, rfl⟩ : ∃ wo : World, wo = w2.drewN q := ⟨_, rfl⟩
  go_wp2_with fail
  refine (xball_c n k _ h1 h2).mono ?_
  rintro e w4 ⟨A1, n1, c1, l1, e1, rfl, s1, S1, hb1⟩
  go_wp2_with fail
  refine (rball_c n k w4).mono ?_
  rintro e w5 ⟨A2, n2, c2, l2, e2, rfl, s2, S2, hb2⟩
  obtain ⟨rfl, rfl⟩ := S1.uniq S2
  have s1' := (s1.below hb2).mono hb2.size
  have hbw5 := (hbw3.trans (hb1.mono hbw3.size)).trans (hb2.mono (by have := hbw3.size; have := hb1.size; omega))
  clear s1 S1 S2 hb1 hb2
  go_wp2_with fail
  refine (lnum_c _ _ _ _ _ _ _ _ w5 s1' s2).mono ?_
  rintro e w6 ⟨rfl, r, rfl⟩
  have hbw6 := below_drewN hbw5 r
  go_wp2_with fail
  refine (works_c _).mono ?_
  rintro e w7 ⟨rfl, hb7⟩
  go_wp2
  go_ret
  exact ⟨rfl, hbw6.trans (hb7.mono hbw6.size)⟩
end Go.Proofs.Ytgilhkdmgbeieaa
