/- The walk of the law ExactPascal. -/
import Derived.Test.YtgilhkdmgbeieaaOe
import Derived.Test.YtgilhkdmgbeieaaNa
import Derived.Test.YtgilhkdmgbeieaaWo
namespace Go.Proofs.Ytgilhkdmgbeieaa
open Go.RowKit

theorem fits_pow {N m : Nat} (h : N ≤ 2 ^ m) (hm : m < 2048) : Fits N := lt_pow_of_le h rfl 64 (by omega)
theorem Cn_fits {n k : Nat} (hn : n ≤ 512) : Fits (Cn n k) := fits_pow (Nat.le_trans (Cn_le n k) (Nat.pow_le_pow_right (by omega) hn)) (by omega)
theorem Bn_fits {n m : Nat} (hn : n ≤ 512) (hm : m ≤ 1024) : Fits (Bn n m) := fits_pow (Bn_bound (g := 10) hn (by omega)) (by omega)
theorem SCount.ok {n N : Nat} {l : List Nat} {e : Int} (h : SCount n N l e) (hn : n ≤ 512) : Num 4294967296 l N ∧ e = 0 := by
  rcases h with ⟨_, _, h3, h4⟩ | ⟨h1, _⟩
  · exact ⟨h3, h4⟩
  · omega

theorem bin_ok (n k : Nat) (w : World) (hn : n ≤ 512) (hk : k ≤ 65536) : Calls Try.prog 28 #[.int .i64 n, .int .i64 k] w fun e w' => ∃ A m c l, e = .returned (.tuple #[.slice A m c, .int .i64 0]) ∧ Sl w' w'.heap.size .u32 A m c l ∧ Num 4294967296 l (Cn n k) ∧ m ≤ 64 ∧ Below w.heap.size w w' :=
  (xbin_c n k w (by omega) (by omega)).mono fun e w' ⟨A, m, c, l, err, he, s, S, hb⟩ => by
    obtain ⟨h1, rfl⟩ := SCount.ok S hn
    rw [show ((n : Int)).toNat = n from rfl, Ci_nat] at h1
    exact ⟨A, m, c, l, he, s, h1, by rw [← s.len]; exact h1.fits.2 (Cn_fits hn), hb⟩
theorem ball_ok (n k : Nat) (w : World) (hn : n ≤ 512) (hk : k ≤ 1000) : Calls Try.prog 31 #[.int .i64 n, .int .i64 k] w fun e w' => ∃ A m c l, e = .returned (.tuple #[.slice A m c, .int .i64 0]) ∧ Sl w' w'.heap.size .u32 A m c l ∧ Num 4294967296 l (Bn n (k + 1)) ∧ m ≤ 64 ∧ Below w.heap.size w w' :=
  (xball_c n k w (by omega) (by omega)).mono fun e w' ⟨A, m, c, l, err, he, s, S, hb⟩ => by
    obtain ⟨h1, rfl⟩ := SCount.ok S hn
    rw [show ((n : Int)).toNat = n from rfl, show ((k : Int) + 1).toNat = k + 1 by omega] at h1
    exact ⟨A, m, c, l, he, s, h1, by rw [← s.len]; exact h1.fits.2 (Bn_fits hn (by omega)), hb⟩

set_option maxRecDepth 100000 in
set_option maxHeartbeats 1600000 in
theorem pascal_w (a b : Nat) (w : World) (ha : a ≤ 65535) (hb : b ≤ 65535) :
    Calls Try.prog 10 #[.int .u16 a, .int .u16 b] w fun e w' => e = .returned (.bool true) ∧ Below w.heap.size w w' := by
  obtain ⟨n, HN, hn⟩ : ∃ n : Nat, Hid (a % 512 = n) ∧ n ≤ 511 := ⟨_, rfl, by omega⟩
  obtain ⟨k, HK, hk⟩ : ∃ k : Nat, Hid (b % 520 = k) ∧ k ≤ 519 := ⟨_, rfl, by omega⟩
  go_enter Try.func10, Try.ntmps10
  go_wp2_with fail
  rw [show (a : Int) % 512 = (n : Int) by have := HN.out; omega, show (b : Int) % 520 = (k : Int) by have := HK.out; omega]
  refine (bin_ok n k w (by omega) (by omega)).mono ?_
  rintro e w1 ⟨A1, n1, c1, l1, rfl, s1, N1, hl1, hb1⟩
  go_wp2_with fail
  refine (bin_ok n (k + 1) w1 (by omega) (by omega)).mono ?_
  rintro e w2 ⟨A2, n2, c2, l2, rfl, s2, N2, hl2, hb2⟩
  have s1b := (s1.below hb2).mono hb2.size
  have hbw2 := hb1.trans (hb2.mono hb1.size)
  clear s1 hb1 hb2
  go_wp2_with fail
  refine (bin_ok (n + 1) (k + 1) w2 (by omega) (by omega)).mono ?_
  rintro e w3 ⟨A3, n3, c3, l3, rfl, s3, N3, hl3, hb3⟩
  have s1c := (s1b.below hb3).mono hb3.size
  have s2c := (s2.below hb3).mono hb3.size
  have hbw3 := hbw2.trans (hb3.mono hbw2.size)
  clear s1b s2 hb3 hbw2
  have HC : Hid (Cn n k + Cn n (k + 1) = Cn (n + 1) (k + 1)) := rfl
  go_wp2_with fail
  have t1 := ladd_c _ _ _ _ _ _ _ _ w3 _ s1c s2c (Nat.le_refl _) N1.dig N2.dig hl1 hl2 (by rw [N1.val_, N2.val_, HC.out]; exact Cn_fits (by omega))
  rw [N1.val_, N2.val_, HC.out] at t1
  refine t1.mono ?_
  rintro e w4 ⟨A4, n4, c4, l4, rfl, s4, N4, hb4⟩
  clear t1
  obtain rfl := N3.uniq N4 (by omega)
  have s3d := (s3.below hb4).mono hb4.size
  have s2d := (s2c.below hb4).mono hb4.size
  have hbw4 := hbw3.trans (hb4.mono hbw3.size)
  clear s1c s2c s3 hb4 hbw3
  go_wp2_with fail
  refine (rsame_c _ _ _ _ _ _ _ _ w4 _ s4 s3d).mono ?_
  rintro e w' ⟨rfl, q, rfl⟩
  rw [show decide (l3 = l3) = true by simp]
  have hbw5 := below_drewN hbw4 q
  have s2e := s2d.drewN q
  clear s2d s3d s4 hbw4
  obtain ⟨w5, hw5⟩ : ∃ wo : World, wo = w4.drewN q := ⟨_, rfl⟩
  rw [show w4.heap.size = (w4.drewN q).heap.size from rfl] at s2e
  rw [← hw5] at hbw5 s2e ⊢
  clear hw5
  go_wp2_with fail
  refine (ball_ok n k w5 (by omega) (by omega)).mono ?_
  rintro e w6 ⟨A6, n6, c6, l6, rfl, s6, N6, hl6, hb6⟩
  have s2f := (s2e.below hb6).mono hb6.size
  have hbw6 := hbw5.trans (hb6.mono hbw5.size)
  clear s2e hb6 hbw5
  go_wp2_with fail
  refine (ball_ok n (k + 1) w6 (by omega) (by omega)).mono ?_
  rintro e w7 ⟨A7, n7, c7, l7, rfl, s7, N7, hl7, hb7⟩
  have s2g := (s2f.below hb7).mono hb7.size
  have s6g := (s6.below hb7).mono hb7.size
  have hbw7 := hbw6.trans (hb7.mono hbw6.size)
  clear s2f s6 hb7 hbw6
  have HB : Hid (Bn n (k + 1) + Cn n (k + 1) = Bn n (k + 1 + 1)) := rfl
  go_wp2_with fail
  have t1 := ladd_c _ _ _ _ _ _ _ _ w7 _ s6g s2g (Nat.le_refl _) N6.dig N2.dig hl6 hl2 (by rw [N6.val_, N2.val_, HB.out]; exact Bn_fits (by omega) (by omega))
  rw [N6.val_, N2.val_, HB.out] at t1
  refine t1.mono ?_
  rintro e w8 ⟨A8, n8, c8, l8, rfl, s8, N8, hb8⟩
  clear t1
  obtain rfl := N7.uniq N8 (by omega)
  have s7h := (s7.below hb8).mono hb8.size
  have hbw8 := hbw7.trans (hb8.mono hbw7.size)
  clear s2g s6g s7 hb8 hbw7
  go_wp2_with fail
  refine (rsame_c _ _ _ _ _ _ _ _ w8 _ s8 s7h).mono ?_
  rintro e w' ⟨rfl, r, rfl⟩
  rw [show decide (l7 = l7) = true by simp]
  have hbw9 := below_drewN hbw8 r
  go_wp2_with fail
  refine (works_c _).mono ?_
  rintro e w10 ⟨rfl, hb10⟩
  go_wp2
  go_ret
  exact ⟨rfl, hbw9.trans (hb10.mono hbw9.size)⟩
end Go.Proofs.Ytgilhkdmgbeieaa
