/- The walk of the law OpticsDetects. -/
import Derived.Test.YtddajmagdjkodaaDoorQv
import Derived.Test.YtddajmagdjkodaaDoorQw
import Derived.Test.YtddajmagdjkodaaDoorQx
import Derived.Test.YtddajmagdjkodaaDoorQl
namespace Go.Proofs.YtddajmagdjkodaaDoor
open Go.RowKit

set_option maxRecDepth 100000 in
set_option maxHeartbeats 3200000 in
theorem detects_c (f : Nat → Int) (A : Option Addr) (n c : Nat) (L : List Li) (sh : Int) (sd : Nat) (w : World) (s : Rd eLi w w.heap.size A n c L) (ht : Tab w) :
    Calls Tryd.prog 4 #[.agg (cells18 f), .slice A n c, .int .i64 sh, .int .u64 (sd : Int)] w fun e w' => e = .returned (.bool true) ∧ Below w.heap.size w w' := by
  have hee : (detErr f sh L == detErr f sh L) = true := by simp
  have hm := s.max
  have hcap := s.cap
  go_enter Tryd.func4, Tryd.ntmps4
  go_upto_region 1 with fail
  have hO := Blk.newAt w 40 (cells18 f) w.heap.size rfl
  have hb := below_alloc w (.cells (cells18 f) 40)
  have s1 := s.on hb
  have ht1 := ht.on hb
  obtain ⟨W, hW⟩ : ∃ W, W = w.alloc (.cells (cells18 f) 40) := ⟨_, rfl⟩
  rw [← hW] at hO hb s1 ht1 ⊢
  clear hW s ht
  by_cases h1 : 600 < (n : Int)
  · go_wp2_with (go_at_call 18; refine (works_c _ ht1).mono ?_; rintro e w' ⟨rfl, hb1⟩)
    go_ret
    exact ⟨rfl, below_on hb hb1⟩
  go_wp2_with (first | (refine wl_load (o := ⟨some 18, _, _, _, _, _⟩) rfl 40 _ rfl w.heap.size rfl 40 (cells18 f) _ hO Tryd.underlying40 rfl (by kernel_rfl) ?_) | (go_at_call 26; refine (detect_c f A n c L sh sd W s1).mono ?_; rintro e w1 ⟨A1, n1, c1, rfl, a1, hb1⟩; refine Hid.out ?_))
  have hO1 := hO.keep hb1
  have s2 := s1.on hb1
  have hb2 := below_on hb hb1
  have ht2 := ht1.on hb1
  refine hide ?_
  go_wp2_with (first | (refine wl_load (o := ⟨some 26, _, _, _, _, _⟩) rfl 40 _ rfl w.heap.size rfl 40 (cells18 f) _ hO1 Tryd.underlying40 rfl (by kernel_rfl) ?_) | (go_at_call 27; refine (rDetect_c f A n c L sh sd w1 s2).mono ?_; rintro e w2 ⟨A2, n2, c2, rfl, a2, hb3⟩; refine Hid.out ?_))
  have a1' := a1.on hb3
  have hb4 := below_on hb2 hb3
  have ht3 := ht2.on hb3
  refine hide ?_
  go_wp2_with (go_at_call 28; refine (sameClicks_c A1 A2 n1 c1 n2 c2 _ w2 a1' a2).mono ?_; rintro e w3 ⟨rfl, hb5⟩; refine Hid.out ?_)
  refine hide ?_
  go_wp2_with (go_at_call 18; refine (works_c _ (ht3.on hb5)).mono ?_; rintro e w' ⟨rfl, hb6⟩)
  go_ret
  exact ⟨rfl, below_on (below_on hb4 hb5) hb6⟩
end Go.Proofs.YtddajmagdjkodaaDoor
