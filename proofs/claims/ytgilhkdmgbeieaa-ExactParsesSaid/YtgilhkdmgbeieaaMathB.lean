/- Products of numbers as lists of digits: plain lemmas. -/
import Derived.Test.YtgilhkdmgbeieaaMath
namespace Go.Proofs.Ytgilhkdmgbeieaa

theorem val_drop_succ {b : Nat} (hb : 0 < b) {l : List Nat} {i : Nat} (h : val b (l.drop i) = 0) : val b (l.drop (i + 1)) = 0 ∧ l.getD i 0 = 0 := by
  rcases Nat.lt_or_ge i l.length with hi | hi
  · rw [List.drop_eq_getElem_cons hi] at h
    simp only [val] at h
    have h1 : l[i] = 0 := by omega
    have h2 : b * val b (l.drop (i + 1)) = 0 := by omega
    rcases Nat.mul_eq_zero.1 h2 with h3 | h3
    · omega
    · exact ⟨h3, by simp [hi, h1]⟩
  · exact ⟨by rw [List.drop_of_length_le (by omega)]; rfl, by simp [hi]⟩

/-- A row of a product: k digits of it are done. 'lo0' is what stood there before. -/
def RowI (b : Nat) (lo0 lb lo : List Nat) (i k x carry : Nat) : Prop :=
  lo.drop (i + k) = lo0.drop (i + k) ∧ val b (lo.take (i + k)) + b ^ (i + k) * carry = val b (lo0.take (i + k)) + b ^ i * (x * val b (lb.take k))
theorem RowI.start (b : Nat) (lo lb : List Nat) (i x : Nat) : RowI b lo lb lo i 0 x 0 := ⟨rfl, by simp [val]⟩
theorem RowI.step {b : Nat} {lo0 lb lo : List Nat} {i k x carry y z t : Nat} (h : RowI b lo0 lb lo i k x carry) (hi : i + k < lo.length) (hy : lb.getD k 0 = y) (hz : lo.getD (i + k) 0 = z)
    (ht : carry + x * y + z = t) : RowI b lo0 lb (lo.set (i + k) (t % b)) i (k + 1) x (t / b) := by
  obtain ⟨h1, h2⟩ := h
  have hz0 : lo0.getD (i + k) 0 = z := by rw [← getD_of_drop h1]; exact hz
  refine ⟨by rw [← Nat.add_assoc, drop_set_succ]; exact drop_succ_of h1, ?_⟩
  rw [← Nat.add_assoc, take_set_succ _ _ _ hi, val_append, val_take_succ b lo0, val_take_succ b lb, List.length_take, Nat.min_eq_left (by omega), Nat.pow_succ, hy, hz0]
  have e := Nat.div_add_mod t b
  have e2 : b ^ (i + k) = b ^ i * b ^ k := Nat.pow_add _ _ _
  generalize t % b = r at *
  generalize t / b = q at *
  rw [e2] at h2 ⊢
  simp only [val]
  subst ht
  generalize b ^ i = p at *
  generalize b ^ k = p' at *
  generalize val b (List.take (i + k) lo) = v1 at *
  generalize val b (List.take (i + k) lo0) = v2 at *
  generalize val b (List.take k lb) = v3 at *
  grind

/-- A product: i rows are done. -/
def TimesI (b : Nat) (la lb lo : List Nat) (i nb : Nat) : Prop :=
  val b (lo.take (i + nb)) = val b (la.take i) * val b lb ∧ val b (lo.drop (i + nb)) = 0
theorem TimesI.start (b : Nat) (la lb : List Nat) (n nb : Nat) : TimesI b la lb (List.replicate n 0) 0 nb := by
  refine ⟨?_, ?_⟩
  · rw [List.take_replicate, val_replicate]; simp [val]
  · rw [List.drop_replicate, val_replicate]
theorem TimesI.step {b : Nat} {la lb lo0 lo : List Nat} {i nb x carry : Nat} (hb : 0 < b) (h : TimesI b la lb lo0 i nb) (hr : RowI b lo0 lb lo i nb x carry) (hx : la.getD i 0 = x) (hlb : lb.length = nb) (hi : i + nb < lo.length) :
    TimesI b la lb (lo.set (i + nb) carry) (i + 1) nb := by
  obtain ⟨h1, h2⟩ := h
  obtain ⟨r1, r2⟩ := hr
  rw [List.take_of_length_le (Nat.le_of_eq hlb)] at r2
  refine ⟨?_, ?_⟩
  · rw [show i + 1 + nb = i + nb + 1 by omega, take_set_succ _ _ _ hi, val_append, val_take_succ b la, List.length_take, Nat.min_eq_left (by omega), hx]
    simp only [val]
    grind
  · rw [show i + 1 + nb = i + nb + 1 by omega, drop_set_succ, drop_succ_of r1]
    exact (val_drop_succ hb h2).1
theorem TimesI.done {b : Nat} {la lb lo : List Nat} {na nb : Nat} (h : TimesI b la lb lo na nb) (ha : la.length = na) (hl : lo.length = na + nb) : val b lo = val b la * val b lb := by
  have h1 := h.1
  rwa [List.take_of_length_le (by omega), List.take_of_length_le (by omega)] at h1
/-- A division, bit by bit: k bits are left. -/
def DivI (V D k Qv R : Nat) : Prop := R < D ∧ ∃ Q, Qv = Q * 2 ^ k ∧ V / 2 ^ k = Q * D + R
theorem DivI.start {V D : Nat} (hD : 0 < D) : DivI V D (bitsN V) 0 0 :=
  ⟨hD, 0, by simp, by simp; exact (bitsN_le V _).1 (Nat.le_refl _)⟩
theorem div_pow_succ (V k : Nat) : V / 2 ^ k = 2 * (V / 2 ^ (k + 1)) + V / 2 ^ k % 2 := by
  have : V / 2 ^ (k + 1) = V / 2 ^ k / 2 := by rw [Nat.pow_succ, Nat.div_div_eq_div_mul]
  omega
theorem DivI.yes {V D k Qv R : Nat} (h : DivI V D (k + 1) Qv R) (hle : D ≤ 2 * R + V / 2 ^ k % 2) : DivI V D k (Qv + 2 ^ k) (2 * R + V / 2 ^ k % 2 - D) := by
  obtain ⟨h1, Q, h2, h3⟩ := h
  have h4 := div_pow_succ V k
  rw [h3] at h4
  refine ⟨by omega, 2 * Q + 1, by rw [h2, Nat.pow_succ]; grind, ?_⟩
  have : (2 * Q + 1) * D = 2 * (Q * D) + D := by grind
  omega
theorem DivI.no {V D k Qv R : Nat} (h : DivI V D (k + 1) Qv R) (hlt : 2 * R + V / 2 ^ k % 2 < D) : DivI V D k Qv (2 * R + V / 2 ^ k % 2) := by
  obtain ⟨h1, Q, h2, h3⟩ := h
  have h4 := div_pow_succ V k
  rw [h3] at h4
  refine ⟨hlt, 2 * Q, by rw [h2, Nat.pow_succ]; grind, ?_⟩
  have : 2 * Q * D = 2 * (Q * D) := by grind
  omega
theorem DivI.done {V D Qv R : Nat} (h : DivI V D 0 Qv R) : Qv = V / D ∧ R = V % D := by
  obtain ⟨h1, Q, h2, h3⟩ := h
  simp at h2 h3
  subst h2
  rw [h3]
  constructor
  · rw [Nat.add_comm, Nat.mul_comm, Nat.add_mul_div_left _ _ (by omega), Nat.div_eq_of_lt h1]; simp
  · rw [Nat.add_comm, Nat.mul_comm, Nat.add_mul_mod_self_left, Nat.mod_eq_of_lt h1]

theorem val_set (b : Nat) (l : List Nat) (j y : Nat) (h : j < l.length) : val b (l.set j y) + b ^ j * l.getD j 0 = val b l + b ^ j * y := by
  have e1 := val_split b (l.set j y) (j + 1)
  have e2 := val_split b l (j + 1)
  rw [take_set_succ _ _ _ h, drop_set_succ, val_append, List.length_take, Nat.min_eq_left (by omega)] at e1
  rw [val_take_succ] at e2
  simp only [val] at e1
  grind

/-- If a number is divisible by 2^(i+1), its limb at i is divisible by 2^(i mod 32 + 1). -/
theorem limb_mod (l : List Nat) (i : Nat) (hd : Digs 4294967296 l) (h : val 4294967296 l % 2 ^ (i + 1) = 0) : l.getD (i / 32) 0 % 2 ^ (i % 32 + 1) = 0 := by
  obtain ⟨q, hq⟩ : ∃ q, i / 32 = q := ⟨_, rfl⟩
  obtain ⟨r, hr⟩ : ∃ r, i % 32 = r := ⟨_, rfl⟩
  rw [hq, hr]
  have hi : i + 1 = 32 * q + (r + 1) := by omega
  have hr' : r < 32 := by omega
  have e := val_split 4294967296 l (q + 1)
  rw [val_take_succ] at e
  have h1 : val 4294967296 (l.take q) < 4294967296 ^ q := Nat.lt_of_lt_of_le (val_lt (hd.take q)) (Nat.pow_le_pow_right (by decide) (List.length_take_le _ _))
  obtain ⟨b, hb⟩ : ∃ b : Nat, 4294967296 = b := ⟨_, rfl⟩
  have hbp : b = 2 ^ (r + 1) * 2 ^ (31 - r) := by rw [← hb, ← Nat.pow_add, show r + 1 + (31 - r) = 32 by omega]
  have hpq : 2 ^ (i + 1) = b ^ q * 2 ^ (r + 1) := by rw [hi, Nat.pow_add, Nat.pow_mul, ← hb]
  rw [hb] at e h1 h
  obtain ⟨m, hm⟩ := Nat.dvd_of_mod_eq_zero h
  have e2 : val b l = val b (l.take q) + b ^ q * (l.getD q 0 + b * val b (l.drop (q + 1))) := by rw [e, Nat.pow_succ]; grind
  have e3 : val b l / b ^ q = l.getD q 0 + b * val b (l.drop (q + 1)) := by
    rw [e2, Nat.add_mul_div_left _ _ (by omega), Nat.div_eq_of_lt h1, Nat.zero_add]
  have e4 : val b l / b ^ q = 2 ^ (r + 1) * m := by
    rw [hm, hpq, Nat.mul_assoc, Nat.mul_div_cancel_left _ (by omega)]
  rw [e4] at e3
  generalize val b (l.drop (q + 1)) = R at *
  have e5 : l.getD q 0 + 2 ^ (r + 1) * (2 ^ (31 - r) * R) = 2 ^ (r + 1) * m := by
    rw [e3, ← Nat.mul_assoc, ← hbp]
  have := congrArg (· % 2 ^ (r + 1)) e5
  simpa [Nat.add_mul_mod_self_left] using this

theorem val_zeros_append (b : Nat) (l : List Nat) (n : Nat) : val b (l ++ List.replicate n 0) = val b l := by
  rw [val_append, val_replicate]; simp

theorem dbl_out {b n v out R D bit : Nat} (h : v + b ^ (n + 1) * out = 2 * R + bit) (hR : R < D) (hD : D < b ^ n) (hbit : bit < 2) (hb : 2 ≤ b) : v = 2 * R + bit := by
  have h1 : b ^ n * 2 ≤ b ^ (n + 1) := by rw [Nat.pow_succ]; exact Nat.mul_le_mul_left _ hb
  rcases Nat.eq_zero_or_pos out with h0 | h0
  · subst h0; simpa using h
  · have : b ^ (n + 1) * 1 ≤ b ^ (n + 1) * out := Nat.mul_le_mul_left _ h0
    omega

theorem ordI_nonneg {x y : Nat} (h : y ≤ x) : 0 ≤ ordI x y := by
  rcases Nat.lt_or_ge y x with h1 | h1
  · rw [ordI_gt h1]; omega
  · rw [ordI_eq (by omega)]; omega
theorem ordI_neg {x y : Nat} (h : x < y) : ordI x y < 0 := by rw [ordI_lt h]; omega

theorem val_setbit (l : List Nat) (j x : Nat) (h : j / 32 < l.length) (hx : l.getD (j / 32) 0 = x) : val 4294967296 (l.set (j / 32) (x + 2 ^ (j % 32))) = val 4294967296 l + 2 ^ j := by
  have e := val_set 4294967296 l (j / 32) (x + 2 ^ (j % 32)) h
  rw [hx, Nat.mul_add] at e
  have e2 : 4294967296 ^ (j / 32) * 2 ^ (j % 32) = 2 ^ j := by
    rw [show (4294967296 : Nat) = 2 ^ 32 from rfl, ← Nat.pow_mul, ← Nat.pow_add]
    congr 1; omega
  rw [e2] at e
  omega
theorem setbit_lt {x r : Nat} (hx : x < 4294967296) (hr : r < 32) (h : x % 2 ^ (r + 1) = 0) : x + 2 ^ r < 4294967296 := by
  have e : (4294967296 : Nat) = 2 ^ (r + 1) * 2 ^ (31 - r) := by rw [← Nat.pow_add, show r + 1 + (31 - r) = 32 by omega]
  obtain ⟨m, hm⟩ := Nat.dvd_of_mod_eq_zero h
  have h2 : 2 ^ (r + 1) * m < 2 ^ (r + 1) * 2 ^ (31 - r) := by rw [← e, ← hm]; exact hx
  have h3 : m < 2 ^ (31 - r) := Nat.lt_of_mul_lt_mul_left h2
  have h4 : 2 ^ (r + 1) * (m + 1) ≤ 2 ^ (r + 1) * 2 ^ (31 - r) := Nat.mul_le_mul_left _ h3
  rw [← e, Nat.mul_add, ← hm] at h4
  have h5 : 2 ^ r < 2 ^ (r + 1) := Nat.pow_lt_pow_right (by omega) (by omega)
  omega

/-- The digits of N gathered so far, X left. -/
structure SmallI (b N X : Nat) (l : List Nat) : Prop where
  dig : Digs b l
  val_ : val b l + b ^ l.length * X = N
  top : X = 0 → ∀ i, l.length = i + 1 → l.getD i 0 ≠ 0
theorem SmallI.start (b N : Nat) : SmallI b N N [] := ⟨Digs.nil _, by simp [val], fun _ i h => by simp at h⟩
theorem SmallI.step {N X : Nat} {l : List Nat} (h : SmallI 256 N X l) (hX : 0 < X) : SmallI 256 N (X / 256) (l ++ [X % 256]) := by
  refine ⟨h.dig.append (Digs.one (by omega)), ?_, fun h0 i hi => ?_⟩
  · have h1 := h.val_
    rw [val_append, List.length_append, List.length_singleton, Nat.pow_succ]
    have e := Nat.div_add_mod X 256
    generalize X / 256 = q at *
    generalize X % 256 = r at *
    subst e
    simp only [val]
    grind
  · rw [List.length_append, List.length_singleton] at hi
    obtain rfl : l.length = i := by omega
    simp
    omega
theorem SmallI.done {b N : Nat} {l : List Nat} (h : SmallI b N 0 l) : Num b l N := ⟨h.dig, by have := h.val_; simpa using this, h.top rfl⟩
theorem SmallI.len {N X : Nat} {l : List Nat} (h : SmallI 256 N X l) (hX : 0 < X) (hN : N ≤ 9223372036854775807) : l.length ≤ 64 := by
  have h1 := h.val_
  have h2 : 256 ^ l.length * 1 ≤ 256 ^ l.length * X := Nat.mul_le_mul_left _ hX
  rcases Nat.lt_or_ge 64 l.length with hl | hl
  · have h3 : (2 : Nat) ^ 64 ≤ 256 ^ l.length := Nat.le_trans (Nat.pow_le_pow_left (by omega) 64) (Nat.pow_le_pow_right (by omega) (by omega))
    omega
  · exact hl
end Go.Proofs.Ytgilhkdmgbeieaa
