/- Contracts of the law's ones and samples. -/
import Derived.Test.YtgilhkdmgbeieaaMathF
import Derived.Test.YtgilhkdmgbeieaaWo
namespace Go.Proofs.Ytgilhkdmgbeieaa
open Go.RowKit

theorem onesN_self (n : Nat) : onesN n ≤ n := by
  rcases Nat.eq_zero_or_pos n with rfl | h
  · rw [onesN_zero]; omega
  · have := onesN_self (n / 2)
    rw [onesN_pos h]; omega
termination_by n
decreasing_by omega

set_option maxHeartbeats 400000 in
theorem ones_c (n : Nat) (w : World) (hn : n ≤ 1099511627776) :
    Calls Try.prog 33 #[.int .i64 n] w fun e w' => e = .returned (.int .i64 (onesN n)) ∧ w = w' := by
  have hs := onesN_self n
  go_enter Try.func33, Try.ntmps33
  go_wp2
  go_loopw [0, 3] (fun xv cv wr => ∃ (x c : Nat), xv = .int .i64 x ∧ cv = .int .i64 c ∧ x ≤ n ∧ c + onesN x = onesN n ∧ w = wr) (fun xv _ _ => (intOf xv).toNat)
  case atStart => exact ⟨n, 0, rfl, rfl, Nat.le_refl _, by omega, by simp⟩
  case round =>
    obtain ⟨x, c, rfl, rfl, hx, hc, rfl⟩ := hrel
    have hx1 := onesN_self x
    have HC := hide hc
    have hcn : c ≤ n := by omega
    clear hc
    by_cases h0 : 0 < x
    · go_wp2
      go_roundw
      case rel => exact ⟨x / 2, c + x % 2, by go_num, by go_num, by omega, by have := HC.out; rw [onesN_pos h0] at this; omega, trivial⟩
      case measure => simp [intOf] <;> omega
    · obtain rfl : x = 0 := by omega
      have hcc := HC.out
      rw [onesN_zero, Nat.add_zero] at hcc
      subst hcc
      go_wp2
      go_ret
      exact ⟨rfl, rfl⟩

theorem wrap64_pow (t : Nat) (h : t ≤ 12) : wrap64 (2 ^ t) = ((2 ^ t : Nat) : Int) := by
  have e : (2 : Int) ^ t = ((2 ^ t : Nat) : Int) := by simp
  have h2 : 2 ^ t ≤ 2 ^ 12 := Nat.pow_le_pow_right (by omega) h
  rw [e]
  generalize 2 ^ t = x at *
  unfold wrap64
  omega

set_option maxRecDepth 100000 in
set_option maxHeartbeats 1600000 in
theorem samples_c (t b s : Nat) (seen : Int) (w : World) (ht : t ≤ 11) (hb : b ≤ t) (hs : s ≤ t) (h1 : -1000 ≤ seen) (h2 : seen ≤ 1000) :
    Calls Try.prog 21 #[.int .i64 t, .int .i64 b, .int .i64 s, .int .i64 seen] w fun e w' => e = .returned (.tuple #[.int .u64 (Wn t b s (seen + 1).toNat), .int .u64 (Cn t s)]) ∧ w = w' := by
  obtain ⟨T, HT, hT⟩ : ∃ T : Nat, Hid (2 ^ t = T) ∧ T ≤ 2048 := ⟨_, rfl, Nat.le_trans (Nat.pow_le_pow_right (by omega) ht) (show 2 ^ 11 ≤ 2048 by decide)⟩
  obtain ⟨p, hp⟩ : ∃ p : Nat → Bool, p = fun x => decide (onesN x = s) && decide (onesN (x % 2 ^ b) < (seen + 1).toNat) := ⟨_, rfl⟩
  obtain ⟨q, hq⟩ : ∃ q : Nat → Bool, q = fun x => decide (onesN x = s) := ⟨_, rfl⟩
  have HP : Hid (cntN p T = Wn t b s (seen + 1).toNat) := by
    obtain ⟨R, rfl⟩ : ∃ R, t = b + R := ⟨t - b, by omega⟩
    show _ = _
    rw [hp, ← HT.out, cnt_samples]
  have HQ : Hid (cntN q T = Cn t s) := by show _ = _; rw [hq, ← HT.out, cnt_sets]
  obtain ⟨U, HU, hU0, hU⟩ : ∃ U : Nat, Hid (2 ^ b = U) ∧ 0 < U ∧ U ≤ 2048 := ⟨_, rfl, Nat.two_pow_pos _, Nat.le_trans (Nat.pow_le_pow_right (by omega) (show b ≤ 11 by omega)) (show 2 ^ 11 ≤ 2048 by decide)⟩
  have hwT : wrap64 (2 ^ t) = (T : Int) := by rw [wrap64_pow t (by omega), HT.out]
  have hwU : wrap64 (2 ^ b) = (U : Int) := by rw [wrap64_pow b (by omega), HU.out]
  have HPS : ∀ i : Nat, Hid (p i = (decide (onesN i = s) && decide ((onesN (i % U) : Int) ≤ seen))) := fun i => by
    show _ = _
    rw [hp, ← HU.out]
    have : onesN (i % 2 ^ b) < (seen + 1).toNat ↔ (onesN (i % 2 ^ b) : Int) ≤ seen := by omega
    simp only [this]
  have HQS : ∀ i : Nat, Hid (q i = decide (onesN i = s)) := fun i => by show _ = _; rw [hq]
  rw [← HP.out, ← HQ.out]
  clear hp hq
  go_enter Try.func21, Try.ntmps21
  go_wp2
  go_loopw [10, 11, 12] (fun fv av iv wr => ∃ i : Nat, i ≤ T ∧ iv = .int .i64 i ∧ fv = .int .u64 (cntN p i) ∧ av = .int .u64 (cntN q i) ∧ w = wr) (fun _ _ iv _ => T - (intOf iv).toNat)
  case atStart => exact ⟨0, Nat.zero_le _, rfl, rfl, rfl, by simp⟩
  case round =>
    obtain ⟨i, hi, rfl, rfl, rfl, rfl⟩ := hrel
    have hcp := cntN_le p i
    have hcq := cntN_le q i
    have ho := onesN_self i
    have hps := HPS i
    have hqs := HQS i
    by_cases hlt : i < T
    · have hlt' : (i : Int) < wrap64 (2 ^ t) := by omega
      go_wp2_with fail
      refine (ones_c i _ (by omega)).mono ?_
      rintro e w' ⟨rfl, rfl⟩
      by_cases hsi : onesN i = s
      · have hq1 : q i = true := by rw [hqs.out]; simp [hsi]
        have ho2 := onesN_self (i % U)
        have hiu : i % U ≤ i := Nat.mod_le _ _
        go_wp2_with fail
        refine (ones_c (i % U) _ (by omega)).mono ?_
        rintro e w' ⟨rfl, rfl⟩
        by_cases hse : (onesN (i % U) : Int) ≤ seen
        · have hp1 : p i = true := by rw [hps.out]; simp [hsi, hse]
          go_wp2
          go_roundw
          case rel => exact ⟨i + 1, by omega, by go_num, by rw [cntN, hp1]; go_num, by rw [cntN, hq1]; go_num, trivial⟩
          case measure => simp [intOf] <;> omega
        · have hp1 : p i = false := by rw [hps.out]; simp [hsi, hse]
          go_wp2
          go_roundw
          case rel => exact ⟨i + 1, by omega, by go_num, by rw [cntN, hp1]; simp, by rw [cntN, hq1]; go_num, trivial⟩
          case measure => simp [intOf] <;> omega
      · have hq1 : q i = false := by rw [hqs.out]; simp [hsi]
        have hp1 : p i = false := by rw [hps.out]; simp [hsi]
        go_wp2
        go_roundw
        case rel => exact ⟨i + 1, by omega, by go_num, by rw [cntN, hp1]; simp, by rw [cntN, hq1]; simp, trivial⟩
        case measure => simp [intOf] <;> omega
    · obtain rfl : i = T := by omega
      have hge' : ¬ (i : Int) < wrap64 (2 ^ t) := by rw [hwT]; exact Int.lt_irrefl _
      go_wp2
      go_ret2
      exact ⟨rfl, rfl⟩
end Go.Proofs.Ytgilhkdmgbeieaa
