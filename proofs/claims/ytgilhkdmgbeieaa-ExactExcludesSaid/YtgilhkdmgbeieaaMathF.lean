/- Counting sets: plain lemmas on binomials, balls, samples, and reduced fractions. -/
import Derived.Test.YtgilhkdmgbeieaaOd
namespace Go.Proofs.Ytgilhkdmgbeieaa

/-- How many bits of a number are true. -/
def onesN (n : Nat) : Nat := if h : n = 0 then 0 else n % 2 + onesN (n / 2)
termination_by n
decreasing_by omega
theorem onesN_zero : onesN 0 = 0 := by rw [onesN]; simp
theorem onesN_pos {n : Nat} (h : 0 < n) : onesN n = n % 2 + onesN (n / 2) := by rw [onesN, dif_neg (by omega)]
theorem onesN_half (n : Nat) : onesN n = n % 2 + onesN (n / 2) := by
  rcases Nat.eq_zero_or_pos n with rfl | h
  · simp [onesN_zero]
  · exact onesN_pos h
theorem onesN_top : ∀ {n x : Nat}, x < 2 ^ n → onesN (2 ^ n + x) = onesN x + 1
  | 0, x, h => by
    obtain rfl : x = 0 := by omega
    rw [onesN_half]; simp [onesN_zero]
  | n + 1, x, h => by
    have e : 2 ^ (n + 1) = 2 * 2 ^ n := by rw [Nat.pow_succ]; omega
    rw [e] at h ⊢
    have ih := @onesN_top n (x / 2) (by omega)
    rw [onesN_half, show (2 * 2 ^ n + x) / 2 = 2 ^ n + x / 2 by omega, ih, show (2 * 2 ^ n + x) % 2 = x % 2 by omega, onesN_half x]
    omega
theorem onesN_le : ∀ (n x : Nat), x < 2 ^ n → onesN x ≤ n
  | 0, x, h => by
    obtain rfl : x = 0 := by omega
    rw [onesN_zero]; omega
  | n + 1, x, h => by
    have ih := onesN_le n (x / 2) (by rw [Nat.pow_succ] at h; omega)
    rw [onesN_half]; omega

/-- How many numbers below m have p. -/
def cntN (p : Nat → Bool) : Nat → Nat
  | 0 => 0
  | m + 1 => cntN p m + (p m).toNat
theorem cntN_le (p : Nat → Bool) : ∀ m, cntN p m ≤ m
  | 0 => Nat.le_refl _
  | m + 1 => by
    have := cntN_le p m
    have : (p m).toNat ≤ 1 := by cases p m <;> simp
    rw [cntN]; omega
theorem cntN_add (p : Nat → Bool) (a : Nat) : ∀ b, cntN p (a + b) = cntN p a + cntN (fun x => p (a + x)) b
  | 0 => by simp [cntN]
  | b + 1 => by rw [← Nat.add_assoc, cntN, cntN, cntN_add p a b]; omega
theorem cntN_congr {p q : Nat → Bool} : ∀ {m : Nat}, (∀ x, x < m → p x = q x) → cntN p m = cntN q m
  | 0, _ => rfl
  | m + 1, h => by rw [cntN, cntN, cntN_congr (fun x hx => h x (by omega)), h m (by omega)]
theorem cntN_none {p : Nat → Bool} {m : Nat} (h : ∀ x, x < m → p x = false) : cntN p m = 0 := by
  rw [cntN_congr (q := fun _ => false) h]
  induction m with
  | zero => rfl
  | succ m ih => rw [cntN, ih (fun x hx => h x (by omega))]; rfl
theorem cntN_sum {p q r : Nat → Bool} : ∀ {m : Nat}, (∀ x, x < m → (p x).toNat = (q x).toNat + (r x).toNat) → cntN p m = cntN q m + cntN r m
  | 0, _ => rfl
  | m + 1, h => by
    have h1 := cntN_sum (m := m) (fun x hx => h x (by omega))
    have h2 := h m (by omega)
    rw [cntN, cntN, cntN, h1, h2]; omega
theorem cntN_split (p : Nat → Bool) (n : Nat) : cntN p (2 ^ (n + 1)) = cntN p (2 ^ n) + cntN (fun x => p (2 ^ n + x)) (2 ^ n) := by
  rw [← cntN_add, Nat.pow_succ]; congr 1; omega

/-- The sets with just k of n things. -/
theorem cnt_sets : ∀ n k : Nat, cntN (fun x => decide (onesN x = k)) (2 ^ n) = Cn n k
  | 0, 0 => by simp [cntN, onesN_zero, Cn]
  | 0, k + 1 => by simp [cntN, onesN_zero, Cn]
  | n + 1, 0 => by
    rw [cntN_split, cnt_sets n 0, cntN_none, Cn_zero, Cn_zero]
    intro x hx
    rw [onesN_top hx]; simp
  | n + 1, k + 1 => by
    rw [cntN_split, cnt_sets n (k + 1), cntN_congr (q := fun x => decide (onesN x = k)), cnt_sets n k, Cn_succ]
    · omega
    · intro x hx
      rw [onesN_top hx]; simp
/-- The sets with at most k of n things. -/
theorem cnt_ball (n : Nat) : ∀ k : Nat, cntN (fun x => decide (onesN x ≤ k)) (2 ^ n) = Bn n (k + 1)
  | 0 => by
    have h : Bn n 1 = Cn n 0 := by simp [Bn]
    rw [h, ← cnt_sets]
    exact cntN_congr fun x _ => by simp
  | k + 1 => by
    rw [Bn, ← cnt_ball n k, ← cnt_sets]
    refine cntN_sum fun x _ => ?_
    rcases Nat.lt_trichotomy (onesN x) (k + 1) with h | h | h
    · simp [show onesN x ≤ k + 1 by omega, show onesN x ≤ k by omega, show onesN x ≠ k + 1 by omega]
    · simp [h]
    · simp [show ¬ onesN x ≤ k + 1 by omega, show ¬ onesN x ≤ k by omega, show onesN x ≠ k + 1 by omega]

/-- One more good thing. -/
theorem Wn_good (b R s : Nat) : ∀ m, Wn (b + R + 1) b (s + 1) m = Wn (b + R) b (s + 1) m + Wn (b + R) b s m
  | 0 => rfl
  | m + 1 => by
    rw [Wn, Wn, Wn, Wn_good b R s m, show b + R + 1 - b = R + 1 by omega, show b + R - b = R by omega]
    rcases Nat.lt_trichotomy m (s + 1) with h | h | h
    · rw [if_pos (show m ≤ s + 1 by omega), if_pos (show m ≤ s + 1 by omega), if_pos (show m ≤ s by omega), show s + 1 - m = (s - m) + 1 by omega, Cn_succ, Nat.mul_add]
      omega
    · subst h
      rw [if_pos (Nat.le_refl _), if_pos (Nat.le_refl _), if_neg (by omega), Nat.sub_self, Cn_zero, Cn_zero]
      omega
    · rw [if_neg (by omega), if_neg (by omega), if_neg (by omega)]
      omega
theorem Wn_good0 (b R : Nat) : ∀ m, Wn (b + R + 1) b 0 m = Wn (b + R) b 0 m
  | 0 => rfl
  | m + 1 => by
    rw [Wn, Wn, Wn_good0 b R m]
    split
    · obtain rfl : m = 0 := by omega
      simp [Cn_zero]
    · rfl
theorem Wn_all (b s : Nat) : ∀ m, Wn b b s m = if s < m then Cn b s else 0
  | 0 => by simp [Wn]
  | m + 1 => by
    rw [Wn, Wn_all b s m, Nat.sub_self]
    rcases Nat.lt_trichotomy m s with h | h | h
    · rw [if_neg (by omega), if_pos (by omega), if_neg (by omega), Cn_gt 0 (s - m) (by omega)]; simp
    · subst h
      rw [if_neg (by omega), if_pos (Nat.le_refl _), if_pos (by omega), Nat.sub_self, Cn_zero]; simp
    · rw [if_pos h, if_neg (by omega), if_pos (by omega)]; rfl
/-- The samples with fewer than m bad ones, counted. -/
theorem cnt_samples (b m : Nat) : ∀ R s : Nat, cntN (fun x => decide (onesN x = s) && decide (onesN (x % 2 ^ b) < m)) (2 ^ (b + R)) = Wn (b + R) b s m
  | 0, s => by
    rw [Nat.add_zero, Wn_all]
    split
    · rename_i h
      rw [← cnt_sets]
      refine cntN_congr fun x hx => ?_
      rw [Nat.mod_eq_of_lt hx]
      by_cases e : onesN x = s
      · simp [e, h]
      · simp [e]
    · rename_i h
      refine cntN_none fun x hx => ?_
      rw [Nat.mod_eq_of_lt hx]
      by_cases e : onesN x = s
      · simp [e]; omega
      · simp [e]
  | R + 1, s => by
    have hmod : ∀ x, (2 ^ (b + R) + x) % 2 ^ b = x % 2 ^ b := fun x => by
      rw [Nat.pow_add, Nat.add_comm, Nat.add_mul_mod_self_left]
    rw [← Nat.add_assoc, cntN_split, cnt_samples b m R s]
    rcases s with _ | s
    · rw [Wn_good0, cntN_none]
      · rfl
      · intro x hx
        rw [onesN_top hx]; simp
    · rw [Wn_good, ← cnt_samples b m R s]
      congr 1
      refine cntN_congr fun x hx => ?_
      rw [onesN_top hx, hmod]; simp
/-- All samples (Vandermonde). -/
theorem Wn_full (b m : Nat) (hm : b < m) : ∀ R s : Nat, Wn (b + R) b s m = Cn (b + R) s
  | 0, s => by
    rw [Nat.add_zero, Wn_all]
    split
    · rfl
    · rw [Cn_gt _ _ (by omega)]
  | R + 1, 0 => by rw [← Nat.add_assoc, Wn_good0, Wn_full b m hm R 0, Cn_zero, Cn_zero]
  | R + 1, s + 1 => by rw [← Nat.add_assoc, Wn_good, Wn_full b m hm R (s + 1), Wn_full b m hm R s, Cn_succ]; omega
theorem Wn_mono (t b s : Nat) {m n : Nat} (h : m ≤ n) : Wn t b s m ≤ Wn t b s n := by
  induction n with
  | zero => obtain rfl : m = 0 := by omega
            exact Nat.le_refl _
  | succ n ih =>
    rcases Nat.lt_or_ge n m with hn | hn
    · obtain rfl : m = n + 1 := by omega
      exact Nat.le_refl _
    · rw [Wn]
      have := ih hn
      omega
/-- One bad thing more: what is lost. -/
theorem Wn_bad (b R k : Nat) : ∀ m, Wn (b + 1 + R) b k (m + 1) = Wn (b + 1 + R) (b + 1) k (m + 1) + if m + 1 ≤ k then Cn b m * Cn R (k - (m + 1)) else 0
  | 0 => by
    simp only [Wn]
    rw [show b + 1 + R - b = R + 1 by omega, show b + 1 + R - (b + 1) = R by omega, Cn_zero, Cn_zero, if_pos (Nat.zero_le _), if_pos (Nat.zero_le _), Nat.sub_zero]
    rcases k with _ | k
    · rw [Cn_zero, Cn_zero]; simp
    · rw [if_pos (by omega), Cn_succ]; simp; omega
  | m + 1 => by
    rw [Wn, Wn_bad b R k m, Wn.eq_def _ (b + 1) k (m + 1 + 1)]
    simp only []
    rw [show b + 1 + R - b = R + 1 by omega, show b + 1 + R - (b + 1) = R by omega, Cn_succ]
    rcases Nat.lt_trichotomy (m + 1) k with h | h | h
    · rw [if_pos (by omega), if_pos (by omega), if_pos (by omega), if_pos (by omega), show k - (m + 1) = (k - (m + 1 + 1)) + 1 by omega, Cn_succ]
      grind
    · subst h
      rw [if_pos (by omega), if_pos (by omega), if_pos (by omega), if_neg (by omega), Nat.sub_self, Cn_zero, Cn_zero]
      grind
    · rw [if_neg (by omega), if_neg (by omega), if_neg (by omega), if_neg (by omega)]
theorem Wn_anti {t b : Nat} (k m : Nat) (h : b + 1 ≤ t) : Wn t (b + 1) k m ≤ Wn t b k m := by
  obtain ⟨R, rfl⟩ : ∃ R, t = b + 1 + R := ⟨t - (b + 1), by omega⟩
  rcases m with _ | m
  · exact Nat.le_refl _
  · rw [Wn_bad]; exact Nat.le_add_right _ _
theorem Wn_anti' {t k m b : Nat} : ∀ {c : Nat}, b ≤ c → c ≤ t → Wn t c k m ≤ Wn t b k m := by
  intro c h1 h2
  induction c with
  | zero => obtain rfl : b = 0 := by omega
            exact Nat.le_refl _
  | succ c ih =>
    rcases Nat.lt_or_ge c b with hc | hc
    · obtain rfl : b = c + 1 := by omega
      exact Nat.le_refl _
    · exact Nat.le_trans (Wn_anti k m h2) (ih hc (by omega))

/-- Factorials. -/
def facN : Nat → Nat
  | 0 => 1
  | n + 1 => facN n * (n + 1)
theorem facN_pos : ∀ n, 0 < facN n
  | 0 => by decide
  | n + 1 => Nat.mul_pos (facN_pos n) (by omega)
theorem Cn_fac : ∀ (j k : Nat), Cn (j + k) k * (facN k * facN j) = facN (j + k)
  | j, 0 => by simp [Cn_zero, facN]
  | 0, k + 1 => by rw [Nat.zero_add, Cn_self]; simp [facN]
  | j + 1, k + 1 => by
    have h1 := Cn_fac (j + 1) k
    have h2 := Cn_fac j (k + 1)
    rw [show j + 1 + (k + 1) = (j + 1 + k) + 1 by omega, Cn_succ]
    rw [show j + (k + 1) = j + 1 + k by omega] at h2
    simp only [facN] at h1 h2 ⊢
    grind
theorem Cn_fac' {n k : Nat} (h : k ≤ n) : Cn n k * (facN k * facN (n - k)) = facN n := by
  have := Cn_fac (n - k) k
  rwa [show n - k + k = n by omega] at this
/-- Bad and sample exchanged: one term. -/
theorem term_swap {n b k i : Nat} (hb : b ≤ n) (hk : k ≤ n) (h1 : i ≤ b) (h2 : i ≤ k) : Cn b i * Cn (n - b) (k - i) * Cn n b = Cn k i * Cn (n - k) (b - i) * Cn n k := by
  rcases Nat.lt_or_ge (n - b) (k - i) with h | h
  · rw [Cn_gt _ _ h, Cn_gt (n - k) (b - i) (by omega)]; simp
  · have e1 := Cn_fac' h1
    have e2 := Cn_fac' h
    have e3 := Cn_fac' hb
    have f1 := Cn_fac' h2
    have f2 := Cn_fac' (show b - i ≤ n - k by omega)
    have f3 := Cn_fac' hk
    rw [show n - k - (b - i) = n - b - (k - i) by omega] at f2
    refine Nat.eq_of_mul_eq_mul_right (m := facN i * facN (b - i) * (facN (k - i) * facN (n - b - (k - i)))) (Nat.mul_pos (Nat.mul_pos (facN_pos _) (facN_pos _)) (Nat.mul_pos (facN_pos _) (facN_pos _))) ?_
    have l : Cn b i * Cn (n - b) (k - i) * Cn n b * (facN i * facN (b - i) * (facN (k - i) * facN (n - b - (k - i)))) = facN n := by
      rw [← e3, ← e1, ← e2]; ac_rfl
    have r : Cn k i * Cn (n - k) (b - i) * Cn n k * (facN i * facN (b - i) * (facN (k - i) * facN (n - b - (k - i)))) = facN n := by
      rw [← f3, ← f1, ← f2]; ac_rfl
    rw [l, r]
theorem Wn_swap {n b k : Nat} (hb : b ≤ n) (hk : k ≤ n) : ∀ m, Wn n b k m * Cn n b = Wn n k b m * Cn n k
  | 0 => by simp [Wn]
  | m + 1 => by
    rw [Wn, Wn, Nat.add_mul, Nat.add_mul, Wn_swap hb hk m]
    congr 1
    by_cases h1 : m ≤ b
    · by_cases h2 : m ≤ k
      · rw [if_pos h2, if_pos h1]; exact term_swap hb hk h1 h2
      · rw [if_neg h2, if_pos h1, Cn_gt k m (by omega)]; simp
    · by_cases h2 : m ≤ k
      · rw [if_pos h2, if_neg h1, Cn_gt b m (by omega)]; simp
      · rw [if_neg h2, if_neg h1]; simp

/-- Equal fractions, reduced. -/
theorem red_eq {V D W E : Nat} (hD : 0 < D) (hE : 0 < E) (h : V * E = W * D) : V / Nat.gcd V D = W / Nat.gcd W E ∧ D / Nat.gcd V D = E / Nat.gcd W E := by
  have hg := Nat.gcd_pos_of_pos_right V hD
  have hf := Nat.gcd_pos_of_pos_right W hE
  have k1 : Nat.gcd (V * E) (D * E) = Nat.gcd V D * E := Nat.gcd_mul_right _ _ _
  have k2 : Nat.gcd (W * D) (E * D) = Nat.gcd W E * D := Nat.gcd_mul_right _ _ _
  rw [h, Nat.mul_comm D E, k2] at k1
  obtain ⟨g, hgg⟩ : ∃ g, Nat.gcd V D = g := ⟨_, rfl⟩
  obtain ⟨f, hff⟩ : ∃ f, Nat.gcd W E = f := ⟨_, rfl⟩
  obtain ⟨v, hv⟩ := Nat.gcd_dvd_left V D
  obtain ⟨d, hd⟩ := Nat.gcd_dvd_right V D
  obtain ⟨x, hx⟩ := Nat.gcd_dvd_left W E
  obtain ⟨y, hy⟩ := Nat.gcd_dvd_right W E
  rw [hgg] at hv hd hg k1 ⊢
  rw [hff] at hx hy hf k1 ⊢
  clear hgg hff k2
  subst hv hd hx hy
  rw [Nat.mul_div_cancel_left _ hg, Nat.mul_div_cancel_left _ hg, Nat.mul_div_cancel_left _ hf, Nat.mul_div_cancel_left _ hf]
  have hyd : d = y := by
    have : f * g * d = f * g * y := by
      have e1 : f * (g * d) = g * (f * y) := k1
      rw [Nat.mul_assoc, e1]; ac_rfl
    exact Nat.eq_of_mul_eq_mul_left (Nat.mul_pos hf hg) this
  subst hyd
  refine ⟨?_, rfl⟩
  have hd0 : 0 < d := Nat.pos_of_mul_pos_left hD
  have : f * g * d * v = f * g * d * x := by
    have e1 : g * v * (f * d) = f * x * (g * d) := h
    calc f * g * d * v = g * v * (f * d) := by ac_rfl
      _ = f * x * (g * d) := e1
      _ = f * g * d * x := by ac_rfl
  exact Nat.eq_of_mul_eq_mul_left (Nat.mul_pos (Nat.mul_pos hf hg) hd0) this
/-- Reduced fractions compare as the fractions do. -/
theorem red_cross {V D W E : Nat} (hD : 0 < D) (hE : 0 < E) : ordI (V / Nat.gcd V D * (E / Nat.gcd W E)) (W / Nat.gcd W E * (D / Nat.gcd V D)) = ordI (V * E) (W * D) := by
  have hg := Nat.gcd_pos_of_pos_right V hD
  have hf := Nat.gcd_pos_of_pos_right W hE
  obtain ⟨g, hgg⟩ : ∃ g, Nat.gcd V D = g := ⟨_, rfl⟩
  obtain ⟨f, hff⟩ : ∃ f, Nat.gcd W E = f := ⟨_, rfl⟩
  obtain ⟨v, hv⟩ := Nat.gcd_dvd_left V D
  obtain ⟨d, hd⟩ := Nat.gcd_dvd_right V D
  obtain ⟨x, hx⟩ := Nat.gcd_dvd_left W E
  obtain ⟨y, hy⟩ := Nat.gcd_dvd_right W E
  rw [hgg] at hv hd hg ⊢
  rw [hff] at hx hy hf ⊢
  clear hgg hff
  subst hv hd hx hy
  rw [Nat.mul_div_cancel_left _ hg, Nat.mul_div_cancel_left _ hg, Nat.mul_div_cancel_left _ hf, Nat.mul_div_cancel_left _ hf]
  rw [show g * v * (f * y) = g * f * (v * y) by ac_rfl, show f * x * (g * d) = g * f * (x * d) by ac_rfl]
  have hp := Nat.mul_pos hg hf
  rcases Nat.lt_trichotomy (v * y) (x * d) with h | h | h
  · rw [ordI_lt h, ordI_lt (Nat.mul_lt_mul_of_pos_left h hp)]
  · rw [ordI_eq h, ordI_eq (by rw [h])]
  · rw [ordI_gt h, ordI_gt (Nat.mul_lt_mul_of_pos_left h hp)]
theorem red_cross1 {V D W E : Nat} (hD : 0 < D) : ordI (V / Nat.gcd V D * E) (W * (D / Nat.gcd V D)) = ordI (V * E) (W * D) := by
  have hg := Nat.gcd_pos_of_pos_right V hD
  obtain ⟨g, hgg⟩ : ∃ g, Nat.gcd V D = g := ⟨_, rfl⟩
  obtain ⟨v, hv⟩ := Nat.gcd_dvd_left V D
  obtain ⟨d, hd⟩ := Nat.gcd_dvd_right V D
  rw [hgg] at hv hd hg ⊢
  clear hgg
  subst hv hd
  rw [Nat.mul_div_cancel_left _ hg, Nat.mul_div_cancel_left _ hg]
  rw [show g * v * E = g * (v * E) by ac_rfl, show W * (g * d) = g * (W * d) by ac_rfl]
  rcases Nat.lt_trichotomy (v * E) (W * d) with h | h | h
  · rw [ordI_lt h, ordI_lt (Nat.mul_lt_mul_of_pos_left h hg)]
  · rw [ordI_eq h, ordI_eq (by rw [h])]
  · rw [ordI_gt h, ordI_gt (Nat.mul_lt_mul_of_pos_left h hg)]
end Go.Proofs.Ytgilhkdmgbeieaa
