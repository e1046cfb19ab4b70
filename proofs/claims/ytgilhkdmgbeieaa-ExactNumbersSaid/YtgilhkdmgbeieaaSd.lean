/- Contracts of the reference's Compare, Add, Sub, Mul, Divide, Gcd. -/
import Derived.Test.YtgilhkdmgbeieaaSc
namespace Go.Proofs.Ytgilhkdmgbeieaa
open Go.RowKit

section
variable (A : Option Addr) (n c : Nat) (l : List Nat) (A' : Option Addr) (n' c' : Nat) (l' : List Nat) (w : World)
variable (h : Sl w w.heap.size .u32 A n c l) (h' : Sl w w.heap.size .u32 A' n' c' l') (hd : Digs 4294967296 l) (hd' : Digs 4294967296 l')
include h h' hd hd'

set_option maxHeartbeats 400000 in
theorem rcompare2_c :
    Calls Try.prog 62 #[.slice A n c, .slice A' n' c'] w fun e w' => e = .returned (.tuple #[.int .i64 (if n ≤ 64 ∧ n' ≤ 64 then ordI (val 4294967296 l) (val 4294967296 l') else 0), .int .i64 (if n ≤ 64 ∧ n' ≤ 64 then 0 else 4)]) ∧ Below w.heap.size w w' := by
  have h1 := rboth_c A n c A' n' c' w h.n63 h'.n63
  by_cases hk : n ≤ 64 ∧ n' ≤ 64
  · rw [if_pos hk] at h1 ⊢
    rw [if_pos hk]
    go_enter Try.func62, Try.ntmps62
    go_wp2_with fail
    refine h1.mono ?_
    rintro e w' ⟨rfl, rfl⟩
    clear h1
    go_wp2_with fail
    refine (rdigits_c _ _ _ _ w _ h (Nat.le_refl _) hd (by omega)).mono ?_
    rintro e w1 ⟨A1, n1, c1, l1, rfl, s1, N1, hb1, _⟩
    have h1' := (h'.below hb1).mono hb1.size
    go_wp2_with fail
    refine (rdigits_c _ _ _ _ w1 _ h1' (Nat.le_refl _) hd' (by omega)).mono ?_
    rintro e w2 ⟨A2, n2, c2, l2, rfl, s2, N2, hb2, _⟩
    have hw2 := hb1.trans (hb2.mono hb1.size)
    go_wp2_with fail
    refine (rcompare_c _ _ _ _ _ _ _ _ _ _ w2 _ ((s1.below hb2).mono hb2.size) s2 N1 N2).mono ?_
    rintro e w3 ⟨rfl, q, rfl⟩
    go_wp2
    go_ret2
    exact ⟨rfl, below_drewN hw2 q⟩
  · rw [if_neg hk] at h1 ⊢
    rw [if_neg hk]
    go_enter Try.func62, Try.ntmps62
    go_wp2_with fail
    refine h1.mono ?_
    rintro e w' ⟨rfl, rfl⟩
    clear h1
    go_wp2
    go_ret2
    exact ⟨rfl, Below.refl _ _⟩

set_option maxHeartbeats 400000 in
theorem radd2_c : Calls Try.prog 107 #[.slice A n c, .slice A' n' c'] w (NumV w (SLong (n ≤ 64 ∧ n' ≤ 64) (SFit (val 4294967296 l + val 4294967296 l')))) := by
  have h1 := rboth_c A n c A' n' c' w h.n63 h'.n63
  by_cases hk : n ≤ 64 ∧ n' ≤ 64
  · rw [if_pos hk] at h1
    go_enter Try.func107, Try.ntmps107
    go_wp2_with fail
    refine h1.mono ?_
    rintro e w' ⟨rfl, rfl⟩
    clear h1
    go_wp2_with fail
    refine (rdigits_c _ _ _ _ w _ h (Nat.le_refl _) hd (by omega)).mono ?_
    rintro e w1 ⟨A1, n1, c1, l1, rfl, s1, N1, hb1, _⟩
    have h1' := (h'.below hb1).mono hb1.size
    go_wp2_with fail
    refine (rdigits_c _ _ _ _ w1 _ h1' (Nat.le_refl _) hd' (by omega)).mono ?_
    rintro e w2 ⟨A2, n2, c2, l2, rfl, s2, N2, hb2, _⟩
    have hw2 := hb1.trans (hb2.mono hb1.size)
    have k1 := N1.l256 (h.fits hd hk.1) s1.len
    have k2 := N2.l256 (h'.fits hd' hk.2) s2.len
    have t := radd_c _ _ _ _ _ _ _ _ w2 _ ((s1.below hb2).mono hb2.size) s2 (Nat.le_refl _) N1.dig N2.dig (by omega) (by omega)
    rw [N1.val_, N2.val_] at t
    go_wp2_with fail
    refine t.mono ?_
    rintro e w3 ⟨A3, n3, c3, l3, rfl, s3, N3, hb3, _⟩
    have hw3 := hw2.trans (hb3.mono hw2.size)
    clear t
    go_wp2_with fail
    refine (rresult_c _ _ _ _ _ w3 s3 N3).mono ?_
    rintro e w4 ⟨A4, n4, c4, l4, e4, rfl, s4, S4, hb4⟩
    go_wp2
    go_ret2
    exact ⟨_, _, _, _, _, rfl, s4, .inl ⟨hk, S4⟩, hw3.trans (hb4.mono hw3.size)⟩
  · rw [if_neg hk] at h1
    go_enter Try.func107, Try.ntmps107
    go_wp2_with fail
    refine h1.mono ?_
    rintro e w' ⟨rfl, rfl⟩
    clear h1
    go_wp2
    go_ret2
    exact ⟨_, _, _, _, _, rfl, Sl.nil _ _ _ _ _ (by omega), .inr ⟨hk, rfl, rfl⟩, Below.refl _ _⟩

set_option maxHeartbeats 400000 in
theorem rmul2_c : Calls Try.prog 109 #[.slice A n c, .slice A' n' c'] w (NumV w (SLong (n ≤ 64 ∧ n' ≤ 64) (SFit (val 4294967296 l * val 4294967296 l')))) := by
  have h1 := rboth_c A n c A' n' c' w h.n63 h'.n63
  by_cases hk : n ≤ 64 ∧ n' ≤ 64
  · rw [if_pos hk] at h1
    go_enter Try.func109, Try.ntmps109
    go_wp2_with fail
    refine h1.mono ?_
    rintro e w' ⟨rfl, rfl⟩
    clear h1
    go_wp2_with fail
    refine (rdigits_c _ _ _ _ w _ h (Nat.le_refl _) hd (by omega)).mono ?_
    rintro e w1 ⟨A1, n1, c1, l1, rfl, s1, N1, hb1, _⟩
    have h1' := (h'.below hb1).mono hb1.size
    go_wp2_with fail
    refine (rdigits_c _ _ _ _ w1 _ h1' (Nat.le_refl _) hd' (by omega)).mono ?_
    rintro e w2 ⟨A2, n2, c2, l2, rfl, s2, N2, hb2, _⟩
    have hw2 := hb1.trans (hb2.mono hb1.size)
    have k1 := N1.l256 (h.fits hd hk.1) s1.len
    have k2 := N2.l256 (h'.fits hd' hk.2) s2.len
    have t := rmul_c _ _ _ _ _ _ _ _ w2 _ ((s1.below hb2).mono hb2.size) s2 (Nat.le_refl _) N1.dig N2.dig (by omega) (by omega)
    rw [N1.val_, N2.val_] at t
    go_wp2_with fail
    refine t.mono ?_
    rintro e w3 ⟨A3, n3, c3, l3, rfl, s3, N3, hb3, _⟩
    have hw3 := hw2.trans (hb3.mono hw2.size)
    clear t
    go_wp2_with fail
    refine (rresult_c _ _ _ _ _ w3 s3 N3).mono ?_
    rintro e w4 ⟨A4, n4, c4, l4, e4, rfl, s4, S4, hb4⟩
    go_wp2
    go_ret2
    exact ⟨_, _, _, _, _, rfl, s4, .inl ⟨hk, S4⟩, hw3.trans (hb4.mono hw3.size)⟩
  · rw [if_neg hk] at h1
    go_enter Try.func109, Try.ntmps109
    go_wp2_with fail
    refine h1.mono ?_
    rintro e w' ⟨rfl, rfl⟩
    clear h1
    go_wp2
    go_ret2
    exact ⟨_, _, _, _, _, rfl, Sl.nil _ _ _ _ _ (by omega), .inr ⟨hk, rfl, rfl⟩, Below.refl _ _⟩

set_option maxHeartbeats 400000 in
theorem rgcd2_c : Calls Try.prog 111 #[.slice A n c, .slice A' n' c'] w (NumV w (SLong (n ≤ 64 ∧ n' ≤ 64) (SNum (Nat.gcd (val 4294967296 l) (val 4294967296 l'))))) := by
  have h1 := rboth_c A n c A' n' c' w h.n63 h'.n63
  by_cases hk : n ≤ 64 ∧ n' ≤ 64
  · rw [if_pos hk] at h1
    go_enter Try.func111, Try.ntmps111
    go_wp2_with fail
    refine h1.mono ?_
    rintro e w' ⟨rfl, rfl⟩
    clear h1
    go_wp2_with fail
    refine (rdigits_c _ _ _ _ w _ h (Nat.le_refl _) hd (by omega)).mono ?_
    rintro e w1 ⟨A1, n1, c1, l1, rfl, s1, N1, hb1, _⟩
    have h1' := (h'.below hb1).mono hb1.size
    go_wp2_with fail
    refine (rdigits_c _ _ _ _ w1 _ h1' (Nat.le_refl _) hd' (by omega)).mono ?_
    rintro e w2 ⟨A2, n2, c2, l2, rfl, s2, N2, hb2, _⟩
    have hw2 := hb1.trans (hb2.mono hb1.size)
    have k1 := N1.l256 (h.fits hd hk.1) s1.len
    have k2 := N2.l256 (h'.fits hd' hk.2) s2.len
    go_wp2_with fail
    refine (rgcd_c _ _ _ _ _ _ _ _ _ _ w2 _ ((s1.below hb2).mono hb2.size) s2 (Nat.le_refl _) N1 N2 (by omega) (by omega)).mono ?_
    rintro e w3 ⟨A3, n3, c3, l3, rfl, s3, N3, hb3⟩
    have hw3 := hw2.trans (hb3.mono hw2.size)
    have k3 := N3.l256 ((h.fits hd hk.1).gcd (h'.fits hd' hk.2)) s3.len
    go_wp2_with fail
    refine (rnat_c _ _ _ _ _ w3 _ s3 (Nat.le_refl _) N3 (by omega)).mono ?_
    rintro e w4 ⟨A4, n4, c4, l4, rfl, s4, N4, hb4, _⟩
    go_wp2
    go_ret2
    exact ⟨_, _, _, _, _, rfl, s4, .inl ⟨hk, N4, rfl⟩, hw3.trans (hb4.mono hw3.size)⟩
  · rw [if_neg hk] at h1
    go_enter Try.func111, Try.ntmps111
    go_wp2_with fail
    refine h1.mono ?_
    rintro e w' ⟨rfl, rfl⟩
    clear h1
    go_wp2
    go_ret2
    exact ⟨_, _, _, _, _, rfl, Sl.nil _ _ _ _ _ (by omega), .inr ⟨hk, rfl, rfl⟩, Below.refl _ _⟩

set_option maxHeartbeats 800000 in
theorem rsub2_c : Calls Try.prog 108 #[.slice A n c, .slice A' n' c'] w (NumV w (SLong (n ≤ 64 ∧ n' ≤ 64) (SSub (val 4294967296 l) (val 4294967296 l')))) := by
  have h1 := rboth_c A n c A' n' c' w h.n63 h'.n63
  by_cases hk : n ≤ 64 ∧ n' ≤ 64
  · rw [if_pos hk] at h1
    go_enter Try.func108, Try.ntmps108
    go_wp2_with fail
    refine h1.mono ?_
    rintro e w' ⟨rfl, rfl⟩
    clear h1
    go_wp2_with fail
    refine (rdigits_c _ _ _ _ w _ h (Nat.le_refl _) hd (by omega)).mono ?_
    rintro e w1 ⟨A1, n1, c1, l1, rfl, s1, N1, hb1, _⟩
    have h1' := (h'.below hb1).mono hb1.size
    go_wp2_with fail
    refine (rdigits_c _ _ _ _ w1 _ h1' (Nat.le_refl _) hd' (by omega)).mono ?_
    rintro e w2 ⟨A2, n2, c2, l2, rfl, s2, N2, hb2, _⟩
    have hw2 := hb1.trans (hb2.mono hb1.size)
    have t2 := rcompare_c _ _ _ _ _ _ _ _ _ _ w2 _ ((s1.below hb2).mono hb2.size) s2 N1 N2
    by_cases hle : val 4294967296 l' ≤ val 4294967296 l
    · obtain ⟨z, hz, hz0⟩ : ∃ z, ordI (val 4294967296 l) (val 4294967296 l') = z ∧ 0 ≤ z := ⟨_, rfl, by
        unfold ordI
        rw [if_neg (by omega)]
        split <;> omega⟩
      rw [hz] at t2
      clear hz
      go_wp2_with fail
      refine t2.mono ?_
      rintro e w3' ⟨rfl, q, hq⟩
      have hw3 : Below w.heap.size w w3' := hq ▸ below_drewN hw2 q
      clear t2 hq
      have h3 := (h.below hw3).mono hw3.size
      have h3' := (h'.below hw3).mono hw3.size
      clear s1 s2 N1 N2 hb1 hb2 hw2 h1'
      go_wp2_with fail
      refine (rdigits_c _ _ _ _ w3' _ h3 (Nat.le_refl _) hd (by omega)).mono ?_
      rintro e w4 ⟨A4, n4, c4, l4, rfl, s4, N4, hb4, _⟩
      have h4' := (h3'.below hb4).mono hb4.size
      have hw4 := hw3.trans (hb4.mono hw3.size)
      go_wp2_with fail
      refine (rdigits_c _ _ _ _ w4 _ h4' (Nat.le_refl _) hd' (by omega)).mono ?_
      rintro e w5 ⟨A5, n5, c5, l5, rfl, s5, N5, hb5, _⟩
      have hw5 := hw4.trans (hb5.mono hw4.size)
      have k4 := N4.l256 (h.fits hd hk.1) s4.len
      have k45 : n5 ≤ n4 := by
        rw [← s5.len]
        refine (N5.length_le (by omega) n4).2 (Nat.lt_of_le_of_lt hle ?_)
        exact (N4.length_le (by omega) n4).1 (by rw [s4.len]; exact Nat.le_refl _)
      have t := rsub_c _ _ _ _ _ _ _ _ w5 _ ((s4.below hb5).mono hb5.size) s5 (Nat.le_refl _) N4.dig N5.dig (by omega) k45 (by rw [N4.val_, N5.val_]; exact hle)
      rw [N4.val_, N5.val_] at t
      go_wp2_with fail
      refine t.mono ?_
      rintro e w6 ⟨A6, n6, c6, l6, rfl, s6, N6, hb6, _⟩
      have hw6 := hw5.trans (hb6.mono hw5.size)
      have k6 := N6.l256 ((h.fits hd hk.1).le (Nat.sub_le _ _)) s6.len
      clear t
      go_wp2_with fail
      refine (rnat_c _ _ _ _ _ w6 _ s6 (Nat.le_refl _) N6 (by omega)).mono ?_
      rintro e w7 ⟨A7, n7, c7, l7, rfl, s7, N7, hb7, _⟩
      go_wp2
      go_ret2
      exact ⟨_, _, _, _, _, rfl, s7, .inl ⟨hk, .inl ⟨hle, N7, rfl⟩⟩, hw6.trans (hb7.mono hw6.size)⟩
    · rw [ordI_lt (by omega)] at t2
      go_wp2_with fail
      refine t2.mono ?_
      rintro e w3' ⟨rfl, q, rfl⟩
      go_wp2
      go_ret2
      exact ⟨_, _, _, _, _, rfl, Sl.nil _ _ _ _ _ (by omega), .inl ⟨hk, .inr ⟨hle, rfl, rfl⟩⟩, below_drewN hw2 q⟩
  · rw [if_neg hk] at h1
    go_enter Try.func108, Try.ntmps108
    go_wp2_with fail
    refine h1.mono ?_
    rintro e w' ⟨rfl, rfl⟩
    clear h1
    go_wp2
    go_ret2
    exact ⟨_, _, _, _, _, rfl, Sl.nil _ _ _ _ _ (by omega), .inr ⟨hk, rfl, rfl⟩, Below.refl _ _⟩

set_option maxHeartbeats 800000 in
theorem rdivide2_c : Calls Try.prog 110 #[.slice A n c, .slice A' n' c'] w (PairV w (SDiv (n ≤ 64 ∧ n' ≤ 64) (val 4294967296 l) (val 4294967296 l'))) := by
  have h1 := rboth_c A n c A' n' c' w h.n63 h'.n63
  by_cases hk : n ≤ 64 ∧ n' ≤ 64
  · rw [if_pos hk] at h1
    go_enter Try.func110, Try.ntmps110
    go_wp2_with fail
    refine h1.mono ?_
    rintro e w' ⟨rfl, rfl⟩
    clear h1
    go_wp2_with fail
    refine (rdigits_c _ _ _ _ w _ h' (Nat.le_refl _) hd' (by omega)).mono ?_
    rintro e w1 ⟨A1, n1, c1, l1, rfl, s1, N1, hb1, _⟩
    have hz := N1.zero_iff (by omega)
    rw [s1.len] at hz
    by_cases h0 : val 4294967296 l' = 0
    · have hn1 : ((n1 : Int) == 0) = true := beq_iff_eq.2 (by have := hz.2 h0; omega)
      go_wp2
      go_ret3
      exact ⟨_, _, _, _, _, _, _, _, _, rfl, Sl.nil _ _ _ _ _ (by omega), Sl.nil _ _ _ _ _ (by omega), .inr (.inl ⟨hk, h0, rfl, rfl, rfl⟩), hb1⟩
    · have hn1 : ((n1 : Int) == 0) = false := beq_eq_false_iff_ne.2 (by have : n1 ≠ 0 := fun hh => h0 (hz.1 hh); omega)
      have h2 := (h.below hb1).mono hb1.size
      have h2' := (h'.below hb1).mono hb1.size
      go_wp2_with fail
      refine (rdigits_c _ _ _ _ w1 _ h2 (Nat.le_refl _) hd (by omega)).mono ?_
      rintro e w2 ⟨A2, n2, c2, l2, rfl, s2, N2, hb2, _⟩
      have h3' := (h2'.below hb2).mono hb2.size
      have hw2 := hb1.trans (hb2.mono hb1.size)
      go_wp2_with fail
      refine (rdigits_c _ _ _ _ w2 _ h3' (Nat.le_refl _) hd' (by omega)).mono ?_
      rintro e w3 ⟨A3, n3, c3, l3, rfl, s3, N3, hb3, _⟩
      have hw3 := hw2.trans (hb3.mono hw2.size)
      have k2 := N2.l256 (h.fits hd hk.1) s2.len
      go_wp2_with fail
      refine (rdivide_c _ _ _ _ _ _ _ _ _ _ w3 _ ((s2.below hb3).mono hb3.size) s3 (Nat.le_refl _) N2 N3 (Nat.pos_of_ne_zero h0) (by omega)).mono ?_
      rintro e w4 ⟨A4, n4, c4, l4, A5, n5, c5, l5, rfl, s4, s5, N4, N5, hb4, _⟩
      have hw4 := hw3.trans (hb4.mono hw3.size)
      have k4 := N4.l256 ((h.fits hd hk.1).le (Nat.div_le_self _ _)) s4.len
      have k5 := N5.l256 ((h.fits hd hk.1).le (Nat.mod_le _ _)) s5.len
      go_wp2_with fail
      refine (rnat_c _ _ _ _ _ w4 _ s4 (Nat.le_refl _) N4 (by omega)).mono ?_
      rintro e w5 ⟨A6, n6, c6, l6, rfl, s6, N6, hb5, _⟩
      have hw5 := hw4.trans (hb5.mono hw4.size)
      go_wp2_with fail
      refine (rnat_c _ _ _ _ _ w5 _ ((s5.below hb5).mono hb5.size) (Nat.le_refl _) N5 (by omega)).mono ?_
      rintro e w6 ⟨A7, n7, c7, l7, rfl, s7, N7, hb6, _⟩
      have hw6 := hw5.trans (hb6.mono hw5.size)
      go_wp2
      go_ret3
      exact ⟨_, _, _, _, _, _, _, _, _, rfl, (s6.below hb6).mono hb6.size, s7, .inl ⟨hk, Nat.pos_of_ne_zero h0, N6, N7, rfl⟩, hw6⟩
  · rw [if_neg hk] at h1
    go_enter Try.func110, Try.ntmps110
    go_wp2_with fail
    refine h1.mono ?_
    rintro e w' ⟨rfl, rfl⟩
    clear h1
    go_wp2
    go_ret3
    exact ⟨_, _, _, _, _, _, _, _, _, rfl, Sl.nil _ _ _ _ _ (by omega), Sl.nil _ _ _ _ _ (by omega), .inr (.inr ⟨hk, rfl, rfl, rfl⟩), Below.refl _ _⟩
end
end Go.Proofs.Ytgilhkdmgbeieaa
