/- The walk of the law OpticsParses. -/
import Derived.Test.YthdidjnhfkeokaaDoorZk
import Derived.Test.YthdidjnhfkeokaaDoorZm
import Derived.Test.YthdidjnhfkeokaaDoorQl
namespace Go.Proofs.YthdidjnhfkeokaaDoor
open Go.RowKit

set_option maxRecDepth 100000 in
set_option maxHeartbeats 6400000 in
theorem parses_c (s : ByteArray) (_hs : s.size ≤ maxLen) (w : World) (ht : Tab w) (hm : Mx w) :
    Calls Tryd.prog 4 #[.string s] w fun e w' => e = .returned (.bool true) ∧ Below w.heap.size w w' := by
  by_cases hlong : 1000 < s.size
  · have hl : (1000 : Int) < (s.size : Int) := by omega
    have HW := hide (works_c w ht)
    clear ht hm
    go_enter Tryd.func4, Tryd.ntmps4
    go_wp2_with (go_at_call 12; refine HW.out.mono ?_; rintro e w1 ⟨rfl, hb1⟩)
    go_ret
    exact ⟨rfl, hb1⟩
  · have hl : ¬ (1000 : Int) < (s.size : Int) := by omega
    have HP := hide (parse_c s w hm (by omega))
    have HR := hide (fun W => rparse_c s W (by omega))
    have HT := hide ht
    clear ht hm hlong
    go_enter Tryd.func4, Tryd.ntmps4
    go_upto_region 4 with (first | (go_at_call 13; refine HP.out.mono ?_; rintro e w1 ⟨f, err, rfl, hp, hb1⟩; have b0 := Blk.newAt w1 26 (cells18 fun _ => 0) w1.heap.size rfl) | (refine wl_store (o := ⟨none, _, _, _, _, _⟩) rfl 26 _ _ rfl w1.heap.size (cells18 f) rfl rfl 26 (cells18 fun _ => 0) b0 (by kernel_rfl) rfl (cells18_one _) ?_; intro W2 b1 hgr1))
    have hb2 := below_grown (below_on hb1 (below_alloc w1 (.cells (cells18 fun _ => 0) 26))) hgr1 hb1.size (Nat.le_refl _)
    have HPS := hide hp
    obtain ⟨g1, hg1⟩ : ∃ q, q = w1.heap.size := ⟨_, rfl⟩
    rw [← hg1] at b1 ⊢
    clear hp b0 hg1 hb1 hgr1
    go_upto_region 5 with (first | (go_at_call 14; refine (HR.out W2).mono ?_; rintro e w3 ⟨g, err2, rfl, hp2, hb3⟩; obtain ⟨hc, he⟩ := HPS.out.uniq hp2; subst he; rw [← hc]; clear hp2 hc; have b0 := Blk.newAt w3 26 (cells18 fun _ => 0) w3.heap.size rfl) | (refine wl_store (o := ⟨none, _, _, _, _, _⟩) rfl 26 _ _ rfl w3.heap.size (cells18 f) rfl rfl 26 (cells18 fun _ => 0) b0 (by kernel_rfl) rfl (cells18_one _) ?_; intro W4 b4 hgr4))
    have hbz := (below_on hb2 hb3).size
    have b3 := ((b1.keep hb3).alloc (.cells (cells18 fun _ => 0) 26)).grown hgr4 (by have := (b1.keep hb3).lt; simp; omega)
    have hb4 := below_grown (below_on (below_on hb2 hb3) (below_alloc w3 (.cells (cells18 fun _ => 0) 26))) hgr4 hbz (Nat.le_refl _)
    obtain ⟨g3, hg3⟩ : ∃ q, q = w3.heap.size := ⟨_, rfl⟩
    rw [← hg3] at b4 ⊢
    have HW := hide (works_c W4 (HT.out.on hb4))
    have HE := eqlO f
    clear hg3 b1 hb2 hb3 b0 hgr4 hbz
    go_wp2_with (first | (refine wl_load (o := ⟨some 21, _, _, _, _, _⟩) rfl 26 _ rfl g1 rfl 26 (cells18 f) _ b3 Tryd.underlying26 rfl (by kernel_rfl) ?_) | (refine wl_load (o := ⟨some 22, _, _, _, _, _⟩) rfl 26 _ rfl g3 rfl 26 (cells18 f) _ b4 Tryd.underlying26 rfl (by kernel_rfl) ?_) | (go_at_call 12; refine HW.out.mono ?_; rintro e w5 ⟨rfl, hb5⟩))
    go_ret
    exact ⟨by simp, below_on hb4 hb5⟩
end Go.Proofs.YthdidjnhfkeokaaDoor
