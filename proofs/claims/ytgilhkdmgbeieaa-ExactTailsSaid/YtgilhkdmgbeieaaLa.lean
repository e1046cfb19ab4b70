/- The walk of the law ExactTails. -/
import Derived.Test.YtgilhkdmgbeieaaRi
import Derived.Test.YtgilhkdmgbeieaaWo
namespace Go.Proofs.Ytgilhkdmgbeieaa
open Go.RowKit

set_option maxRecDepth 100000 in
set_option maxHeartbeats 1600000 in
theorem tails_w (t b s k : Int) (w : World) (h1 : -9223372036854775808 ≤ k) (h2 : k ≤ 9223372036854775807) :
    Calls Try.prog 3 #[.int .i64 t, .int .i64 b, .int .i64 s, .int .i64 k] w fun e w' => e = .returned (.bool true) ∧ Below w.heap.size w w' := by
  go_enter Try.func3, Try.ntmps3
  go_wp2_with fail
  refine (tail_c t b s k w h1 h2).mono ?_
  rintro e w1 ⟨A, n, c, l, A', n', c', l', err, rfl, s1, s2, hS, hb1⟩
  go_wp2_with fail
  have hX := Blk.new w1 25 #[.slice A n c, .slice A' n' c']
  have hbx := (Below.refl w1.heap.size w1).alloc (Nat.le_refl _) (.cells #[.slice A n c, .slice A' n' c'] 25)
  have hsx : w1.heap.size < (w1.alloc (.cells #[.slice A n c, .slice A' n' c'] 25)).heap.size := by simp
  generalize w1.alloc (.cells #[.slice A n c, .slice A' n' c'] 25) = w1a at *
  refine (rtail_c t b s k w1a h1 h2).mono ?_
  rintro e w2 ⟨C, m, d, l2, C', m', d', l2', err2, rfl, s3, s4, hS2, hb2⟩
  obtain ⟨rfl, rfl, rfl⟩ := hS.uniq hS2
  have s1' := ((s1.below hbx).mono hbx.size).below hb2
  have s2' := ((s2.below hbx).mono hbx.size).below hb2
  have hX2 := hX.keep hb2
  have hbw2 := (hb1.trans (hbx.mono hb1.size)).trans (hb2.mono (Nat.le_trans hb1.size hbx.size))
  have hz2 := hb2.size
  clear hS hS2 s1 s2 hX hbx hb1 hb2
  have hby := (Below.refl w2.heap.size w2).alloc (Nat.le_refl _) (.cells #[.slice C m d, .slice C' m' d'] 25)
  have hX3 := hX2.keep hby
  have c0 := hX3.cell 0
  have c1 := hX3.cell 1
  simp at c0 c1
  have p1 := ((s1'.mono hz2).below hby).mono hby.size
  have p2 := ((s2'.mono hz2).below hby).mono hby.size
  have p3 := (s3.below hby).mono hby.size
  have p4 := (s4.below hby).mono hby.size
  have hbw3 := hbw2.trans (hby.mono hbw2.size)
  clear s1' s2' s3 s4 hX2 hX3 hbw2
  go_wp2_with fail
  refine (lfrac_c _ _ _ _ _ _ _ _ _ _ _ _ _ _ _ _ p1 p2 p3 p4).mono ?_
  rintro e w4 ⟨rfl, hb4⟩
  have hbw4 := hbw3.trans (hb4.mono hbw3.size)
  clear p1 p2 p3 p4 hb4 hbw3
  go_wp2_with fail
  refine (works_c w4).mono ?_
  rintro e w5 ⟨rfl, hb5⟩
  go_wp2
  go_ret
  exact ⟨rfl, hbw4.trans (hb5.mono hbw4.size)⟩
end Go.Proofs.Ytgilhkdmgbeieaa
