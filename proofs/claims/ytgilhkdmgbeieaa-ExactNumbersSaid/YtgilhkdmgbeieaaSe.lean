/- The contract of the law's sums (its blocks printed by wip/gensums.py). -/
import Derived.Test.YtgilhkdmgbeieaaSd
namespace Go.Proofs.Ytgilhkdmgbeieaa
open Go.RowKit

set_option maxRecDepth 100000 in
set_option maxHeartbeats 3200000 in
theorem sums_c (A : Option Addr) (n c : Nat) (l : List Nat) (A' : Option Addr) (n' c' : Nat) (l' : List Nat) (w : World)
    (h : Sl w w.heap.size .u32 A n c l) (h' : Sl w w.heap.size .u32 A' n' c' l') (hd : Digs 4294967296 l) (hd' : Digs 4294967296 l') :
    Calls Try.prog 66 #[.slice A n c, .slice A' n' c'] w fun e w' => e = .returned (.bool true) ∧ Below w.heap.size w w' := by
  have hw := Below.refl w.heap.size w
  go_enter Try.func66, Try.ntmps66
  go_wp2_with fail
  refine (xadd_c _ _ _ _ _ _ _ _ _ _ h h' (Nat.le_refl _) hd hd').mono ?_
  rintro e wa1 ⟨A1, n1, c1, l1, e1, rfl, s1, S1, hb⟩
  replace h := (h.below hb).mono hb.size
  replace h' := (h'.below hb).mono hb.size
  replace hw := hw.trans (hb.mono hw.size)
  clear hb
  go_wp2_with fail
  refine (radd2_c _ _ _ _ _ _ _ _ _ h h' hd hd').mono ?_
  rintro e wb1 ⟨A2, n2, c2, l2, e2, rfl, s2, S2, hb⟩
  replace h := (h.below hb).mono hb.size
  replace h' := (h'.below hb).mono hb.size
  replace hw := hw.trans (hb.mono hw.size)
  replace s1 := (s1.below hb).mono hb.size
  clear hb
  obtain ⟨rfl, rfl⟩ := (SLong.uniq (SFit.uniq _)) S1 S2
  clear S1 S2
  go_wp2_with fail
  refine (lnum_c _ _ _ _ _ _ _ _ _ s1 s2).mono ?_
  rintro e wc1 ⟨rfl, q, hq⟩
  have hb : Below wb1.heap.size wb1 wc1 := hq ▸ below_drewN (Below.refl _ _) q
  replace h := (h.below hb).mono hb.size
  replace h' := (h'.below hb).mono hb.size
  replace hw := hw.trans (hb.mono hw.size)
  clear hb hq s1 s2
  go_wp2_with fail
  refine (xsub_c _ _ _ _ _ _ _ _ _ _ h h' (Nat.le_refl _) hd hd').mono ?_
  rintro e wa2 ⟨A1, n1, c1, l1, e1, rfl, s1, S1, hb⟩
  replace h := (h.below hb).mono hb.size
  replace h' := (h'.below hb).mono hb.size
  replace hw := hw.trans (hb.mono hw.size)
  clear hb
  go_wp2_with fail
  refine (rsub2_c _ _ _ _ _ _ _ _ _ h h' hd hd').mono ?_
  rintro e wb2 ⟨A2, n2, c2, l2, e2, rfl, s2, S2, hb⟩
  replace h := (h.below hb).mono hb.size
  replace h' := (h'.below hb).mono hb.size
  replace hw := hw.trans (hb.mono hw.size)
  replace s1 := (s1.below hb).mono hb.size
  clear hb
  obtain ⟨rfl, rfl⟩ := (SLong.uniq (SSub.uniq _ _)) S1 S2
  clear S1 S2
  go_wp2_with fail
  refine (lnum_c _ _ _ _ _ _ _ _ _ s1 s2).mono ?_
  rintro e wc2 ⟨rfl, q, hq⟩
  have hb : Below wb2.heap.size wb2 wc2 := hq ▸ below_drewN (Below.refl _ _) q
  replace h := (h.below hb).mono hb.size
  replace h' := (h'.below hb).mono hb.size
  replace hw := hw.trans (hb.mono hw.size)
  clear hb hq s1 s2
  go_wp2_with fail
  refine (xmul_c _ _ _ _ _ _ _ _ _ _ h h' (Nat.le_refl _) hd hd').mono ?_
  rintro e wa3 ⟨A1, n1, c1, l1, e1, rfl, s1, S1, hb⟩
  replace h := (h.below hb).mono hb.size
  replace h' := (h'.below hb).mono hb.size
  replace hw := hw.trans (hb.mono hw.size)
  clear hb
  go_wp2_with fail
  refine (rmul2_c _ _ _ _ _ _ _ _ _ h h' hd hd').mono ?_
  rintro e wb3 ⟨A2, n2, c2, l2, e2, rfl, s2, S2, hb⟩
  replace h := (h.below hb).mono hb.size
  replace h' := (h'.below hb).mono hb.size
  replace hw := hw.trans (hb.mono hw.size)
  replace s1 := (s1.below hb).mono hb.size
  clear hb
  obtain ⟨rfl, rfl⟩ := (SLong.uniq (SFit.uniq _)) S1 S2
  clear S1 S2
  go_wp2_with fail
  refine (lnum_c _ _ _ _ _ _ _ _ _ s1 s2).mono ?_
  rintro e wc3 ⟨rfl, q, hq⟩
  have hb : Below wb3.heap.size wb3 wc3 := hq ▸ below_drewN (Below.refl _ _) q
  replace h := (h.below hb).mono hb.size
  replace h' := (h'.below hb).mono hb.size
  replace hw := hw.trans (hb.mono hw.size)
  clear hb hq s1 s2
  go_wp2_with fail
  refine (xdivide_c _ _ _ _ _ _ _ _ _ _ h h' (Nat.le_refl _) hd hd').mono ?_
  rintro e wa4 ⟨A1, n1, c1, l1, B1, m1, d1, k1, e1, rfl, s1, t1, S1, hb⟩
  replace h := (h.below hb).mono hb.size
  replace h' := (h'.below hb).mono hb.size
  replace hw := hw.trans (hb.mono hw.size)
  clear hb
  go_wp2_with fail
  refine (rdivide2_c _ _ _ _ _ _ _ _ _ h h' hd hd').mono ?_
  rintro e wb4 ⟨A2, n2, c2, l2, B2, m2, d2, k2, e2, rfl, s2, t2, S2, hb⟩
  replace h := (h.below hb).mono hb.size
  replace h' := (h'.below hb).mono hb.size
  replace hw := hw.trans (hb.mono hw.size)
  replace s1 := (s1.below hb).mono hb.size
  replace t1 := (t1.below hb).mono hb.size
  clear hb
  obtain ⟨rfl, rfl, rfl⟩ := S1.uniq S2
  clear S1 S2
  go_wp2_with fail
  refine (lnum_c _ _ _ _ _ _ _ _ _ s1 s2).mono ?_
  rintro e wc4 ⟨rfl, q, hq⟩
  have hb : Below wb4.heap.size wb4 wc4 := hq ▸ below_drewN (Below.refl _ _) q
  replace h := (h.below hb).mono hb.size
  replace h' := (h'.below hb).mono hb.size
  replace hw := hw.trans (hb.mono hw.size)
  replace t1 := (t1.below hb).mono hb.size
  replace t2 := (t2.below hb).mono hb.size
  clear hb hq s1 s2
  go_wp2_with fail
  refine (rsame_c _ _ _ _ _ _ _ _ _ _ t1 t2).mono ?_
  rintro e wd4 ⟨rfl, q, hq⟩
  rw [show decide (k1 = k1) = true by simp]
  have hb : Below wc4.heap.size wc4 wd4 := hq ▸ below_drewN (Below.refl _ _) q
  replace h := (h.below hb).mono hb.size
  replace h' := (h'.below hb).mono hb.size
  replace hw := hw.trans (hb.mono hw.size)
  clear hb hq t1 t2
  go_wp2_with fail
  refine (xgcd_c _ _ _ _ _ _ _ _ _ _ h h' (Nat.le_refl _) hd hd').mono ?_
  rintro e wa5 ⟨A1, n1, c1, l1, e1, rfl, s1, S1, hb⟩
  replace h := (h.below hb).mono hb.size
  replace h' := (h'.below hb).mono hb.size
  replace hw := hw.trans (hb.mono hw.size)
  clear hb
  go_wp2_with fail
  refine (rgcd2_c _ _ _ _ _ _ _ _ _ h h' hd hd').mono ?_
  rintro e wb5 ⟨A2, n2, c2, l2, e2, rfl, s2, S2, hb⟩
  replace h := (h.below hb).mono hb.size
  replace h' := (h'.below hb).mono hb.size
  replace hw := hw.trans (hb.mono hw.size)
  replace s1 := (s1.below hb).mono hb.size
  clear hb
  obtain ⟨rfl, rfl⟩ := (SLong.uniq (SNum.uniq _)) S1 S2
  clear S1 S2
  go_wp2_with fail
  refine (lnum_c _ _ _ _ _ _ _ _ _ s1 s2).mono ?_
  rintro e wc5 ⟨rfl, q, hq⟩
  have hb : Below wb5.heap.size wb5 wc5 := hq ▸ below_drewN (Below.refl _ _) q
  replace h := (h.below hb).mono hb.size
  replace h' := (h'.below hb).mono hb.size
  replace hw := hw.trans (hb.mono hw.size)
  clear hb hq s1 s2
  go_wp2
  go_ret
  exact ⟨rfl, hw⟩
end Go.Proofs.Ytgilhkdmgbeieaa
