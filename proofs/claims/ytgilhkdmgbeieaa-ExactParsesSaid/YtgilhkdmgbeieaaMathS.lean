/- The arithmetic of the reference's division. -/
import Derived.Test.YtgilhkdmgbeieaaMathB
namespace Go.Proofs.Ytgilhkdmgbeieaa

/-- A division digit by digit: k digits are left. -/
structure DivJ (la : List Nat) (D k : Nat) (lo : List Nat) (R : Nat) : Prop where
  lt : R < D
  zero : ∀ j, j < k → lo.getD j 0 = 0
  eq : ∃ Q, val 256 lo = Q * 256 ^ k ∧ val 256 (la.drop k) = Q * D + R

theorem val_drop_cons (b : Nat) (l : List Nat) (i : Nat) : val b (l.drop i) = l.getD i 0 + b * val b (l.drop (i + 1)) := by
  rcases Nat.lt_or_ge i l.length with h | h
  · rw [List.drop_eq_getElem_cons h]
    simp [val, h]
  · rw [List.drop_of_length_le h, List.drop_of_length_le (by omega)]
    simp [val, h]

theorem DivJ.step {la lo : List Nat} {D i R x q R' : Nat} (h : DivJ la D (i + 1) lo R) (hi : i < lo.length) (hx : la.getD i 0 = x) (hT : 256 * R + x = q * D + R') (hR : R' < D) : DivJ la D i (lo.set i q) R' := by
  obtain ⟨h1, h2, Q, h3, h4⟩ := h
  refine ⟨hR, fun j hj => ?_, 256 * Q + q, ?_, ?_⟩
  · rw [List.getD_eq_getElem?_getD, List.getElem?_set_ne (by omega), ← List.getD_eq_getElem?_getD]
    exact h2 j (by omega)
  · have := val_set 256 lo i q hi
    rw [h2 i (by omega)] at this
    rw [Nat.pow_succ] at h3
    generalize 256 ^ i = p at *
    generalize val 256 (lo.set i q) = v at *
    generalize val 256 lo = v' at *
    subst h3
    rw [Nat.mul_zero, Nat.add_zero] at this
    rw [this, Nat.add_mul, Nat.mul_comm p 256, ← Nat.mul_assoc, Nat.mul_comm Q 256, Nat.mul_comm p q]
  · rw [val_drop_cons, hx, h4]
    rw [Nat.add_mul, Nat.mul_assoc 256]
    generalize Q * D = z at *
    generalize q * D = z' at *
    omega
theorem DivJ.done {la lo : List Nat} {D R : Nat} (h : DivJ la D 0 lo R) : val 256 lo = val 256 la / D ∧ R = val 256 la % D := by
  obtain ⟨h1, _, Q, h3, h4⟩ := h
  rw [List.drop_zero] at h4
  rw [Nat.pow_zero, Nat.mul_one] at h3
  have hD : 0 < D := by omega
  rw [h3, h4]
  refine ⟨?_, ?_⟩
  · rw [Nat.mul_comm, Nat.mul_add_div hD, Nat.div_eq_of_lt h1, Nat.add_zero]
  · rw [Nat.mul_comm, Nat.mul_add_mod, Nat.mod_eq_of_lt h1]

/-- One digit of it, bit by bit: m bits are left. -/
structure DivB (T D m q R : Nat) : Prop where
  lt : R < D * 2 ^ m
  eq : T = q * (D * 2 ^ m) + R
  le : m ≤ 8
  small : q < 2 ^ (8 - m)
theorem DivB.start {T D : Nat} (h : T < 256 * D) : DivB T D 8 0 T := ⟨by omega, by omega, by omega, by omega⟩
theorem pow_half {m : Nat} (h : m + 1 ≤ 8) : 2 ^ (8 - m) = 2 ^ (8 - (m + 1)) * 2 := by
  rw [← Nat.pow_succ]; congr 1; omega
theorem DivB.q_lt {T D m q R : Nat} (h : DivB T D m q R) : q < 256 := by
  have : (2 : Nat) ^ (8 - m) ≤ 2 ^ 8 := Nat.pow_le_pow_right (by omega) (by omega)
  have := h.small
  omega
theorem DivB.yes {T D m q R : Nat} (h : DivB T D (m + 1) q R) (hle : D * 2 ^ m ≤ R) : DivB T D m (2 * q + 1) (R - D * 2 ^ m) := by
  obtain ⟨h1, h2, h3, h4⟩ := h
  have hp := pow_half h3
  rw [Nat.pow_succ, show D * (2 ^ m * 2) = D * 2 ^ m * 2 from (Nat.mul_assoc _ _ _).symm] at h1 h2
  obtain ⟨z, hz⟩ : ∃ z, D * 2 ^ m = z := ⟨_, rfl⟩
  rw [hz] at h1 h2 hle
  have e : (2 * q + 1) * z = q * (z * 2) + z := by
    rw [Nat.add_mul, Nat.one_mul, Nat.mul_comm 2 q, Nat.mul_assoc, Nat.mul_comm 2 z]
  exact ⟨by rw [hz]; omega, by rw [hz, e]; omega, by omega, by omega⟩
theorem DivB.no {T D m q R : Nat} (h : DivB T D (m + 1) q R) (hlt : R < D * 2 ^ m) : DivB T D m (2 * q) R := by
  obtain ⟨h1, h2, h3, h4⟩ := h
  have hp := pow_half h3
  rw [Nat.pow_succ, show D * (2 ^ m * 2) = D * 2 ^ m * 2 from (Nat.mul_assoc _ _ _).symm] at h1 h2
  obtain ⟨z, hz⟩ : ∃ z, D * 2 ^ m = z := ⟨_, rfl⟩
  rw [hz] at h1 h2 hlt
  have e : 2 * q * z = q * (z * 2) := by
    rw [Nat.mul_comm 2 q, Nat.mul_assoc, Nat.mul_comm 2 z]
  exact ⟨by rw [hz]; omega, by rw [hz, e]; omega, by omega, by omega⟩
theorem DivJ.first {la : List Nat} {D at_ n : Nat} (hd : val 256 (la.drop at_) < D) : DivJ la D at_ (List.replicate n 0) (val 256 (la.drop at_)) :=
  ⟨hd, fun j _ => by simp [List.getD_eq_getElem?_getD, List.getElem?_replicate]; split <;> rfl, 0, by rw [val_replicate]; simp, by simp⟩
end Go.Proofs.Ytgilhkdmgbeieaa
