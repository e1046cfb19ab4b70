/- The walk of the law ExactSets. -/
import Derived.Test.YtgilhkdmgbeieaaPa
import Derived.Test.YtgilhkdmgbeieaaLd
import Derived.Test.YtgilhkdmgbeieaaOb
namespace Go.Proofs.Ytgilhkdmgbeieaa
open Go.RowKit

set_option maxRecDepth 100000 in
set_option maxHeartbeats 3200000 in
theorem sets_w (a b : Nat) (w : World) (ha : a ≤ 255) (hb : b ≤ 255) :
    Calls Try.prog 8 #[.int .u8 a, .int .u8 b] w fun e w' => e = .returned (.bool true) ∧ Below w.heap.size w w' := by
  obtain ⟨n, HN, hn⟩ : ∃ n : Nat, Hid (a % 13 = n) ∧ n ≤ 12 := ⟨_, rfl, by omega⟩
  obtain ⟨k, HK, hk⟩ : ∃ k : Nat, Hid (b % 16 = k) ∧ k ≤ 15 := ⟨_, rfl, by omega⟩
  have hna : (a : Int) % 13 = (n : Int) := by have := HN.out; omega
  have hkb : (b : Int) % 16 = (k : Int) := by have := HK.out; omega
  obtain ⟨T, HT, hT⟩ : ∃ T : Nat, Hid (2 ^ n = T) ∧ T ≤ 4096 := ⟨_, rfl, Nat.le_trans (Nat.pow_le_pow_right (by omega) hn) (show 2 ^ 12 ≤ 4096 by decide)⟩
  obtain ⟨p, hp⟩ : ∃ p : Nat → Bool, p = fun x => decide (onesN x = k) := ⟨_, rfl⟩
  obtain ⟨q, hq⟩ : ∃ q : Nat → Bool, q = fun x => decide (onesN x ≤ k) := ⟨_, rfl⟩
  have HP : Hid (cntN p T = Cn n k) := by show _ = _; rw [hp, ← HT.out, cnt_sets]
  have HQ : Hid (cntN q T = Bn n (k + 1)) := by show _ = _; rw [hq, ← HT.out, cnt_ball]
  have hwT : wrap64 (2 ^ n) = (T : Int) := by rw [wrap64_pow n (by omega), HT.out]
  have HPS : ∀ i : Nat, Hid (p i = decide (onesN i = k)) := fun i => by show _ = _; rw [hp]
  have HQS : ∀ i : Nat, Hid (q i = decide (onesN i ≤ k)) := fun i => by show _ = _; rw [hq]
  have hcT := cntN_le p T
  have hdT := cntN_le q T
  clear hp hq
  go_enter Try.func8, Try.ntmps8
  go_wp2
  go_loopw [7, 8, 9] (fun fv av iv wr => ∃ i : Nat, i ≤ T ∧ iv = .int .i64 i ∧ fv = .int .u64 (cntN p i) ∧ av = .int .u64 (cntN q i) ∧ w = wr) (fun _ _ iv _ => T - (intOf iv).toNat)
  case atStart => exact ⟨0, Nat.zero_le _, rfl, rfl, rfl, by trivial⟩
  case round =>
    obtain ⟨i, hi, rfl, rfl, rfl, rfl⟩ := hrel
    by_cases hlt : i < T
    · have hlt' : (i : Int) < wrap64 (2 ^ n) := by rw [hwT]; exact Int.ofNat_lt.2 hlt
      have hcp := cntN_le p i
      have hcq := cntN_le q i
      have ho := onesN_self i
      have hps := HPS i
      have hqs := HQS i
      go_wp2_with fail
      refine (ones_c i _ (by omega)).mono ?_
      rintro e w' ⟨rfl, rfl⟩
      by_cases h1 : onesN i = k
      · have hq1 : q i = true := by rw [hqs.out]; simp; omega
        have hp1 : p i = true := by rw [hps.out]; simp [h1]
        go_wp2
        rw [← hna, ← hkb]
        go_roundw
        case rel => exact ⟨i + 1, by omega, by go_num, by rw [cntN, hp1]; go_num, by rw [cntN, hq1]; go_num, trivial⟩
        case measure => simp [intOf] <;> omega
      · have hp1 : p i = false := by rw [hps.out]; simp [h1]
        by_cases h2 : onesN i ≤ k
        · have hq1 : q i = true := by rw [hqs.out]; simp [h2]
          go_wp2
          rw [← hna, ← hkb]
          go_roundw
          case rel => exact ⟨i + 1, by omega, by go_num, by rw [cntN, hp1]; simp, by rw [cntN, hq1]; go_num, trivial⟩
          case measure => simp [intOf] <;> omega
        · have hq1 : q i = false := by rw [hqs.out]; simp [h2]
          go_wp2
          rw [← hna, ← hkb]
          go_roundw
          case rel => exact ⟨i + 1, by omega, by go_num, by rw [cntN, hp1]; simp, by rw [cntN, hq1]; simp, trivial⟩
          case measure => simp [intOf] <;> omega
    · obtain rfl : i = T := by omega
      have hge' : ¬ (i : Int) < wrap64 (2 ^ n) := by rw [hwT]; exact Int.lt_irrefl _
      rw [HP.out] at hcT ⊢
      rw [HQ.out] at hdT ⊢
      go_wp2_with fail
      refine (bin_ok n k _ (by omega) (by omega)).mono ?_
      rintro e w1 ⟨A1, n1, c1, l1, rfl, s1, N1, hl1, hb1⟩
      go_wp2_with fail
      refine (ball_ok n k w1 (by omega) (by omega)).mono ?_
      rintro e w2 ⟨A2, n2, c2, l2, rfl, s2, N2, hl2, hb2⟩
      have s1b := (s1.below hb2).mono hb2.size
      have hbw2 := hb1.trans (hb2.mono hb1.size)
      clear s1 hb1 hb2
      go_wp2_with fail
      refine (rof_c (Cn n k) w2 (by omega)).mono ?_
      rintro e w3 ⟨A3, n3, c3, l3, rfl, s3, N3, hb3⟩
      obtain rfl := N1.uniq N3 (by omega)
      have s1c := (s1b.below hb3).mono hb3.size
      have s2c := (s2.below hb3).mono hb3.size
      have hbw3 := hbw2.trans (hb3.mono hbw2.size)
      clear s1b s2 hb3 hbw2
      go_wp2_with fail
      refine (rsame_c _ _ _ _ _ _ _ _ w3 _ s1c s3).mono ?_
      rintro e w' ⟨rfl, q1, rfl⟩
      rw [show decide (l1 = l1) = true by simp]
      have hbw4 := below_drewN hbw3 q1
      have s2d := s2c.drewN q1
      clear s1c s2c s3 hbw3
      obtain ⟨w4, hw4⟩ : ∃ wo : World, wo = w3.drewN q1 := ⟨_, rfl⟩
      rw [show w3.heap.size = (w3.drewN q1).heap.size from rfl] at s2d
      rw [← hw4] at hbw4 s2d ⊢
      clear hw4
      go_wp2_with fail
      refine (rof_c (Bn n (k + 1)) w4 (by omega)).mono ?_
      rintro e w5 ⟨A5, n5, c5, l5, rfl, s5, N5, hb5⟩
      obtain rfl := N2.uniq N5 (by omega)
      have s2e := (s2d.below hb5).mono hb5.size
      have hbw5 := hbw4.trans (hb5.mono hbw4.size)
      clear s2d hb5 hbw4
      go_wp2_with fail
      refine (rsame_c _ _ _ _ _ _ _ _ w5 _ s2e s5).mono ?_
      rintro e w' ⟨rfl, r, rfl⟩
      rw [show decide (l2 = l2) = true by simp]
      have hbw6 := below_drewN hbw5 r
      go_wp2_with fail
      refine (works_c _).mono ?_
      rintro e w7 ⟨rfl, hb7⟩
      go_wp2
      go_ret
      exact ⟨rfl, hbw6.trans (hb7.mono hbw6.size)⟩
end Go.Proofs.Ytgilhkdmgbeieaa
