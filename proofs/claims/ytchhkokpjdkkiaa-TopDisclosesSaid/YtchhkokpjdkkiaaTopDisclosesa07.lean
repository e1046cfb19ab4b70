/- The greatest common divisor by halves and differences: plain lemmas. -/
import Derived.Test.YtchhkokpjdkkiaaTopDisclosesa06
namespace Go.Proofs.Ytchhkokpjdkkiaa.Ex

theorem gcd_halves {X Y : Nat} (hx : X % 2 = 0) (hy : Y % 2 = 0) : Nat.gcd X Y = 2 * Nat.gcd (X / 2) (Y / 2) := by
  rw [← Nat.gcd_mul_left]
  congr 1 <;> omega
theorem coprime_two {Y : Nat} (hy : Y % 2 = 1) : Nat.Coprime 2 Y := by
  show Nat.gcd 2 Y = 1
  rw [Nat.gcd_rec, hy]
  decide
theorem gcd_half_left {X Y : Nat} (hx : X % 2 = 0) (hy : Y % 2 = 1) : Nat.gcd X Y = Nat.gcd (X / 2) Y := by
  have h := Nat.Coprime.gcd_mul_left_cancel (X / 2) (coprime_two hy)
  rw [show 2 * (X / 2) = X by omega] at h
  exact h
theorem gcd_half_right {X Y : Nat} (hx : X % 2 = 1) (hy : Y % 2 = 0) : Nat.gcd X Y = Nat.gcd X (Y / 2) := by
  rw [Nat.gcd_comm, gcd_half_left hy hx, Nat.gcd_comm]
theorem gcd_diff {X Y : Nat} (h : Y ≤ X) : Nat.gcd X Y = Nat.gcd (X - Y) Y := (Nat.gcd_sub_self_left h).symm

theorem dbl_fits {b n v out x : Nat} (h : v + b ^ n * out = 2 * x) (hx : 2 * x < b ^ n) : v = 2 * x := by
  rcases Nat.eq_zero_or_pos out with h0 | h0
  · subst h0; simpa using h
  · have : b ^ n * 1 ≤ b ^ n * out := Nat.mul_le_mul_left _ h0
    omega
theorem twos_fit {Y n t i : Nat} (hY : Y < 4294967296 ^ n) (hi : i ≤ t) : Y * 2 ^ i < 4294967296 ^ (n + t / 32 + 1) := by
  have h1 : (2 : Nat) ^ i ≤ 2 ^ (32 * (t / 32 + 1)) := Nat.pow_le_pow_right (by omega) (by omega)
  have h2 : (2 : Nat) ^ (32 * (t / 32 + 1)) = 4294967296 ^ (t / 32 + 1) := by rw [Nat.pow_mul]
  rw [h2] at h1
  rw [Nat.add_assoc, Nat.pow_add]
  have h3 : 0 < (2 : Nat) ^ i := Nat.two_pow_pos i
  exact Nat.lt_of_lt_of_le (Nat.mul_lt_mul_of_pos_right hY h3) (Nat.mul_le_mul_left _ h1)

theorem twos_lt {V W t G M : Nat} (h : Nat.gcd V W = 2 ^ t * G) (hV : 0 < V) (hM : V < 4294967296 ^ M) : t < 32 * M := by
  have h1 : 0 < Nat.gcd V W := Nat.gcd_pos_of_pos_left _ hV
  have h2 : Nat.gcd V W ≤ V := Nat.gcd_le_left _ hV
  have hG : 0 < G := by
    rcases Nat.eq_zero_or_pos G with h0 | h0
    · rw [h0, Nat.mul_zero] at h; omega
    · exact h0
  have h3 : 2 ^ t * 1 ≤ 2 ^ t * G := Nat.mul_le_mul_left _ hG
  have h4 : (4294967296 : Nat) ^ M = 2 ^ (32 * M) := by rw [Nat.pow_mul]
  rw [h4] at hM
  exact (Nat.pow_lt_pow_iff_right (by omega)).1 (show 2 ^ t < 2 ^ (32 * M) by omega)
end Go.Proofs.Ytchhkokpjdkkiaa.Ex
