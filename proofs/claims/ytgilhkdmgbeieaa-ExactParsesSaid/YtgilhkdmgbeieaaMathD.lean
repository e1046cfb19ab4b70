/- Binomial coefficients and the counts of samples: plain lemmas. -/
import Derived.Test.YtgilhkdmgbeieaaMathC
namespace Go.Proofs.Ytgilhkdmgbeieaa

/-- How many sets of k there are among n things. -/
def Cn : Nat → Nat → Nat
  | _, 0 => 1
  | 0, _ + 1 => 0
  | n + 1, k + 1 => Cn n k + Cn n (k + 1)
theorem Cn_zero (n : Nat) : Cn n 0 = 1 := by cases n <;> rfl
theorem Cn_succ (n k : Nat) : Cn (n + 1) (k + 1) = Cn n k + Cn n (k + 1) := rfl
theorem Cn_gt : ∀ (n k : Nat), n < k → Cn n k = 0
  | 0, 0, h => by omega
  | 0, k + 1, _ => rfl
  | n + 1, 0, h => by omega
  | n + 1, k + 1, h => by rw [Cn_succ, Cn_gt n k (by omega), Cn_gt n (k + 1) (by omega)]
theorem Cn_self : ∀ n : Nat, Cn n n = 1
  | 0 => rfl
  | n + 1 => by rw [Cn_succ, Cn_self n, Cn_gt n (n + 1) (by omega)]
theorem Cn_step : ∀ (n k : Nat), Cn n (k + 1) * (k + 1) = Cn n k * (n - k)
  | 0, 0 => by simp [Cn]
  | 0, k + 1 => by simp [Cn]
  | n + 1, 0 => by
    have h := Cn_step n 0
    rw [Cn_zero] at h
    rw [Cn_succ, Cn_zero, Cn_zero]
    omega
  | n + 1, k + 1 => by
    have h1 := Cn_step n k
    have h2 := Cn_step n (k + 1)
    rw [Cn_succ n (k + 1), Cn_succ n k]
    rcases Nat.lt_or_ge k n with hk | hk
    · obtain ⟨m, hm⟩ : ∃ m, n - k = m + 1 := ⟨n - k - 1, by omega⟩
      rw [show n + 1 - (k + 1) = n - k by omega, hm]
      rw [hm] at h1
      rw [show n - (k + 1) = m by omega] at h2
      grind
    · rw [show n + 1 - (k + 1) = 0 by omega, Nat.mul_zero, Cn_gt n (k + 1) (by omega), Cn_gt n (k + 1 + 1) (by omega)]
      simp
theorem Cn_next (n k : Nat) : Cn n k * (n - k) / (k + 1) = Cn n (k + 1) := by
  rw [← Cn_step, Nat.mul_div_cancel _ (by omega)]
theorem Cn_prev {n k : Nat} (h : k + 1 ≤ n) : Cn n (k + 1) * (k + 1) / (n - (k + 1) + 1) = Cn n k := by
  rw [Cn_step, show n - (k + 1) + 1 = n - k by omega, Nat.mul_div_cancel _ (by omega)]
theorem Cn_le : ∀ n k : Nat, Cn n k ≤ 2 ^ n
  | 0, 0 => by simp [Cn]
  | 0, k + 1 => by simp [Cn]
  | n + 1, 0 => by rw [Cn_zero]; exact Nat.one_le_two_pow
  | n + 1, k + 1 => by
    have h1 := Cn_le n k
    have h2 := Cn_le n (k + 1)
    rw [Cn_succ, Nat.pow_succ]; omega
theorem Cn_pos : ∀ {n k : Nat}, k ≤ n → 0 < Cn n k
  | n, 0, _ => by rw [Cn_zero]; omega
  | 0, k + 1, h => by omega
  | n + 1, k + 1, h => by
    have := @Cn_pos n k (by omega)
    rw [Cn_succ]; omega
theorem Cn_symm : ∀ {n k : Nat}, k ≤ n → Cn n (n - k) = Cn n k
  | n, 0, _ => by rw [Nat.sub_zero, Cn_zero, Cn_self]
  | 0, k + 1, h => by omega
  | n + 1, k + 1, h => by
    rcases Nat.lt_or_ge k n with hk | hk
    · have h1 := @Cn_symm n k (by omega)
      have h2 := @Cn_symm n (k + 1) (by omega)
      rw [show n + 1 - (k + 1) = (n - (k + 1)) + 1 by omega, Cn_succ, Cn_succ, show n - (k + 1) + 1 = n - k by omega, h1, h2]
      omega
    · obtain rfl : k = n := by omega
      rw [Nat.sub_self, Cn_zero, Cn_self]
theorem Cn_min {n k : Nat} (h : k ≤ n) : Cn n (min k (n - k)) = Cn n k := by
  rcases Nat.le_total k (n - k) with h1 | h1
  · rw [Nat.min_eq_left h1]
  · rw [Nat.min_eq_right h1, Cn_symm h]

/-- How many sets of s things there are among t of which b are bad, with fewer than m bad ones. -/
def Wn (t b s : Nat) : Nat → Nat
  | 0 => 0
  | m + 1 => Wn t b s m + if m ≤ s then Cn b m * Cn (t - b) (s - m) else 0
theorem Wn_zero_upto {t b s : Nat} : ∀ {m : Nat}, (∀ i, i < m → t - b < s - i) → Wn t b s m = 0
  | 0, _ => rfl
  | m + 1, h => by
    unfold Wn
    rw [Wn_zero_upto (fun i hi => h i (by omega)), Cn_gt _ _ (h m (by omega))]
    simp
theorem Wn_stop {t b s : Nat} {m n : Nat} (h : m ≤ n) (hm : min b s < m) : Wn t b s n = Wn t b s m := by
  induction n with
  | zero => obtain rfl : m = 0 := by omega
            rfl
  | succ n ih =>
    rcases Nat.lt_or_ge n m with hn | hn
    · obtain rfl : m = n + 1 := by omega
      rfl
    · rw [Wn, ih hn]
      split
      · rw [Cn_gt b n (by omega)]; simp
      · rfl
theorem Wn_le (t b s e f : Nat) (hb : b ≤ e) (ht : t ≤ e) (hf : e + e = f) : ∀ m, Wn t b s m ≤ m * 2 ^ f
  | 0 => by simp [Wn]
  | m + 1 => by
    have h1 := Wn_le t b s e f hb ht hf m
    have h2 : (if m ≤ s then Cn b m * Cn (t - b) (s - m) else 0) ≤ 2 ^ f := by
      split
      · have a1 : Cn b m ≤ 2 ^ e := Nat.le_trans (Cn_le b m) (Nat.pow_le_pow_right (by omega) hb)
        have a2 : Cn (t - b) (s - m) ≤ 2 ^ e := Nat.le_trans (Cn_le _ _) (Nat.pow_le_pow_right (by omega) (by omega))
        have := Nat.mul_le_mul a1 a2
        rwa [← Nat.pow_add, hf] at this
      · exact Nat.zero_le _
    rw [Wn, Nat.add_mul, Nat.one_mul]
    exact Nat.add_le_add h1 h2
/-- C(n, k) for any k. -/
def Ci (n : Nat) (k : Int) : Nat := if k < 0 then 0 else Cn n k.toNat
theorem Ci_nat (n k : Nat) : Ci n (k : Int) = Cn n k := by unfold Ci; rw [if_neg (by omega)]; rfl
theorem Ci_out {n : Nat} {k : Int} (h : k < 0 ∨ (n : Int) < k) : Ci n k = 0 := by
  unfold Ci
  split
  · rfl
  · exact Cn_gt _ _ (by omega)
theorem lt_pow_of_le {N b m : Nat} (h : N ≤ 2 ^ m) (hb : b = 4294967296) (k : Nat) (hk : m < 32 * k) : N < b ^ k := by
  rw [hb, show (4294967296 : Nat) = 2 ^ 32 from rfl, ← Nat.pow_mul]
  exact Nat.lt_of_le_of_lt h (Nat.pow_lt_pow_right (by omega) hk)
/-- A number that fits 64 limbs. -/
def Fits (N : Nat) : Prop := N < 4294967296 ^ 64
theorem Num.fits {l : List Nat} {N : Nat} (h : Num 4294967296 l N) : l.length ≤ 64 ↔ Fits N := h.length_le (by omega) 64
theorem Num.len_Cn {l : List Nat} {N k n : Nat} (h : Num 4294967296 l (Cn N k)) (hN : N ≤ 512) (hl : l.length = n) : n ≤ 17 := by
  rw [← hl]
  exact (h.length_le (by omega) 17).2 (lt_pow_of_le (Cn_le N k) rfl 17 (by omega))
end Go.Proofs.Ytgilhkdmgbeieaa
