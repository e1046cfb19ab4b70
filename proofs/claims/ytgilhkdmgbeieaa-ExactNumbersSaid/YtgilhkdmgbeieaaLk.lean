/- The walk of the law ExactNumbers. -/
import Derived.Test.YtgilhkdmgbeieaaSe
import Derived.Test.YtgilhkdmgbeieaaSf
import Derived.Test.YtgilhkdmgbeieaaWo
namespace Go.Proofs.Ytgilhkdmgbeieaa
open Go.RowKit

set_option maxRecDepth 100000 in
set_option maxHeartbeats 6400000 in
theorem numbers_w (w : World) (A : Option Addr) (n c : Nat) (l : List Nat) (h : Sl w w.heap.size .u32 A n c l) (hd : Digs 4294967296 l) (A' : Option Addr) (n' c' : Nat) (l' : List Nat) (h' : Sl w w.heap.size .u32 A' n' c' l') (hd' : Digs 4294967296 l') :
    Calls Try.prog 14 #[.slice A n c, .slice A' n' c'] w fun e w' => e = .returned (.bool true) ∧ Below w.heap.size w w' := by
  have hn := h.n63
  have hn' := h'.n63
  by_cases hlen : n ≤ 200 ∧ n' ≤ 200
  · obtain ⟨ck, hck⟩ : ∃ ck : Int, (if n ≤ 64 then 0 else 4) = ck := ⟨_, rfl⟩
    obtain ⟨sv, hsv⟩ : ∃ sv, smallV n (val 4294967296 l) = sv := ⟨_, rfl⟩
    obtain ⟨se, hse⟩ : ∃ se, smallE n (val 4294967296 l) = se := ⟨_, rfl⟩
    obtain ⟨cv, hcv⟩ : ∃ cv, (if n ≤ 64 ∧ n' ≤ 64 then ordI (val 4294967296 l) (val 4294967296 l') else 0) = cv := ⟨_, rfl⟩
    obtain ⟨ce, hce⟩ : ∃ ce : Int, (if n ≤ 64 ∧ n' ≤ 64 then 0 else 4) = ce := ⟨_, rfl⟩
    obtain ⟨bv, hbv⟩ : ∃ bv, (if n ≤ 64 then bitsN (val 4294967296 l) else 0) = bv := ⟨_, rfl⟩
    obtain ⟨tv, htv⟩ : ∃ tv, (if n ≤ 64 then strN (textN (val 4294967296 l)) else ⟨#[]⟩) = tv := ⟨_, rfl⟩
    have HCK := hide hck
    have HSV := hide hsv
    have HSE := hide hse
    have HCV := hide hcv
    have HCE := hide hce
    have HBV := hide hbv
    have HTV := hide htv
    clear hck hsv hse hcv hce hbv htv
    have hw := Below.refl w.heap.size w
    go_enter Try.func14, Try.ntmps14
    go_wp2_with fail
    refine (xnorm_c _ _ _ _ _ _ h (Nat.le_refl _) hd).mono ?_
    rintro e w1 ⟨A1, n1, c1, l1, e1, rfl, s1, S1, hb⟩
    replace h := (h.below hb).mono hb.size
    replace h' := (h'.below hb).mono hb.size
    replace hw := hw.trans (hb.mono hw.size)
    clear hb
    go_wp2_with fail
    refine (rnorm_c _ _ _ _ _ h hd).mono ?_
    rintro e w2 ⟨A2, n2, c2, l2, e2, rfl, s2, S2, hb⟩
    replace h := (h.below hb).mono hb.size
    replace h' := (h'.below hb).mono hb.size
    replace hw := hw.trans (hb.mono hw.size)
    replace s1 := (s1.below hb).mono hb.size
    obtain ⟨rfl, rfl⟩ := (SLong.uniq (SNum.uniq _)) S1 S2
    clear hb S1 S2
    have t1 := check1_c A n c w2 hn
    have t2 := rcheck1_c A n c w2 hn
    rw [HCK.out] at t1 t2
    go_wp2_with fail
    refine t1.mono ?_
    rintro e w' ⟨rfl, rfl⟩
    go_wp2_with fail
    refine t2.mono ?_
    rintro e w' ⟨rfl, rfl⟩
    clear t1 t2
    go_wp2_with fail
    refine (lnum_c _ _ _ _ _ _ _ _ _ s1 s2).mono ?_
    rintro e w3 ⟨rfl, q, hq⟩
    have hb : Below w2.heap.size w2 w3 := hq ▸ below_drewN (Below.refl _ _) q
    replace h := (h.below hb).mono hb.size
    replace h' := (h'.below hb).mono hb.size
    replace hw := hw.trans (hb.mono hw.size)
    clear hb hq s1 s2
    have t1 := xsmall_c _ _ _ _ _ _ h hd
    have t2 := rsmall_c _ _ _ _ _ h hd
    rw [HSV.out, HSE.out] at t1 t2
    go_wp2_with fail
    refine t1.mono ?_
    rintro e w' ⟨rfl, rfl⟩
    go_wp2_with fail
    refine t2.mono ?_
    rintro e w4 ⟨rfl, hb⟩
    replace h := (h.below hb).mono hb.size
    replace h' := (h'.below hb).mono hb.size
    replace hw := hw.trans (hb.mono hw.size)
    clear hb t1 t2
    have t1 := xcompare_c _ _ _ _ _ _ _ _ _ _ h h' hd hd'
    rw [HCV.out, HCE.out] at t1
    go_wp2_with fail
    refine t1.mono ?_
    rintro e w5 ⟨rfl, q, hq⟩
    have hb : Below w4.heap.size w4 w5 := hq ▸ below_drewN (Below.refl _ _) q
    replace h := (h.below hb).mono hb.size
    replace h' := (h'.below hb).mono hb.size
    replace hw := hw.trans (hb.mono hw.size)
    clear hb hq t1
    have t2 := rcompare2_c _ _ _ _ _ _ _ _ _ h h' hd hd'
    rw [HCV.out, HCE.out] at t2
    go_wp2_with fail
    refine t2.mono ?_
    rintro e w6 ⟨rfl, hb⟩
    replace h := (h.below hb).mono hb.size
    replace h' := (h'.below hb).mono hb.size
    replace hw := hw.trans (hb.mono hw.size)
    clear hb t2
    have t1 := xbits_c _ _ _ _ _ _ h hd
    have t2 := rbits_c _ _ _ _ _ h hd
    rw [HBV.out, HCK.out] at t1 t2
    go_wp2_with fail
    refine t1.mono ?_
    rintro e w' ⟨rfl, rfl⟩
    go_wp2_with fail
    refine t2.mono ?_
    rintro e w7 ⟨rfl, hb⟩
    replace h := (h.below hb).mono hb.size
    replace h' := (h'.below hb).mono hb.size
    replace hw := hw.trans (hb.mono hw.size)
    clear hb t1 t2
    have t1 := xtext_c _ _ _ _ _ _ h (Nat.le_refl _) hd
    rw [HTV.out, HCK.out] at t1
    go_wp2_with fail
    refine t1.mono ?_
    rintro e w8 ⟨rfl, hb⟩
    replace h := (h.below hb).mono hb.size
    replace h' := (h'.below hb).mono hb.size
    replace hw := hw.trans (hb.mono hw.size)
    clear hb t1
    have t2 := rtext_c _ _ _ _ _ h hd
    rw [HTV.out, HCK.out] at t2
    go_wp2_with fail
    refine t2.mono ?_
    rintro e w9 ⟨rfl, hb⟩
    replace h := (h.below hb).mono hb.size
    replace h' := (h'.below hb).mono hb.size
    replace hw := hw.trans (hb.mono hw.size)
    clear hb t2
    go_wp2_with fail
    refine (sums_c _ _ _ _ _ _ _ _ _ h h' hd hd').mono ?_
    rintro e w10 ⟨rfl, hb⟩
    replace hw := hw.trans (hb.mono hw.size)
    clear hb
    go_wp2_with fail
    refine (works_c _).mono ?_
    rintro e w11 ⟨rfl, hb⟩
    go_wp2
    go_ret
    exact ⟨rfl, hw.trans (hb.mono hw.size)⟩
  · have hc : 200 < n ∨ (n ≤ 200 ∧ 200 < n') := by omega
    rcases hc with hc | hc
    all_goals
      go_enter Try.func14, Try.ntmps14
      go_wp2_with fail
      refine (works_c _).mono ?_
      rintro e w4 ⟨rfl, hb4⟩
      go_wp2
      go_ret
      exact ⟨rfl, hb4⟩
end Go.Proofs.Ytgilhkdmgbeieaa
