/- What the reference's loops compute: plain lemmas. -/
import Derived.Test.YtgilhkdmgbeieaaMathD
namespace Go.Proofs.Ytgilhkdmgbeieaa

/-- A sum that is appended to, digit by digit. -/
structure AddI (b : Nat) (la lb lo : List Nat) (i carry : Nat) : Prop where
  len : lo.length = i
  dig : Digs b lo
  val_ : val b lo + b ^ i * carry = val b (la.take i) + val b (lb.take i)
theorem AddI.start (b : Nat) (la lb : List Nat) : AddI b la lb [] 0 0 := ⟨rfl, Digs.nil _, by simp [val]⟩
theorem AddI.step {b : Nat} {la lb lo : List Nat} {i carry x y t : Nat} (hb : 0 < b) (h : AddI b la lb lo i carry) (hx : la.getD i 0 = x) (hy : lb.getD i 0 = y) (ht : carry + x + y = t) :
    AddI b la lb (lo ++ [t % b]) (i + 1) (t / b) := by
  refine ⟨by rw [List.length_append, h.len]; rfl, h.dig.append (Digs.one (Nat.mod_lt _ hb)), ?_⟩
  have h1 := h.val_
  rw [val_append, val_take_succ, val_take_succ, Nat.pow_succ, hx, hy, h.len]
  have e := Nat.div_add_mod t b
  generalize t % b = r at *
  generalize t / b = q at *
  simp only [val]
  subst ht
  grind
theorem AddI.done {b : Nat} {la lb lo : List Nat} {i : Nat} (h : AddI b la lb lo i 0) (ha : la.length ≤ i) (hb : lb.length ≤ i) : val b lo = val b la + val b lb := by
  have h1 := h.val_
  rw [List.take_of_length_le ha, List.take_of_length_le hb] at h1
  simpa using h1

/-- A difference that is appended to, digit by digit. -/
structure SubI (b : Nat) (la lb lo : List Nat) (i borrow : Nat) : Prop where
  len : lo.length = i
  dig : Digs b lo
  val_ : val b lo + val b (lb.take i) = val b (la.take i) + b ^ i * borrow
theorem SubI.start (b : Nat) (la lb : List Nat) : SubI b la lb [] 0 0 := ⟨rfl, Digs.nil _, by simp [val]⟩
theorem SubI.step {b : Nat} {la lb lo : List Nat} {i borrow borrow' x y z : Nat} (h : SubI b la lb lo i borrow) (hx : la.getD i 0 = x) (hy : lb.getD i 0 = y) (hzb : z < b)
    (hz : z + y + borrow = x + b * borrow') : SubI b la lb (lo ++ [z]) (i + 1) borrow' := by
  refine ⟨by rw [List.length_append, h.len]; rfl, h.dig.append (Digs.one hzb), ?_⟩
  have h1 := h.val_
  rw [val_append, val_take_succ, val_take_succ, Nat.pow_succ, hx, hy, h.len]
  simp only [val]
  grind
theorem SubI.done {b : Nat} {la lb lo : List Nat} {n borrow : Nat} (h : SubI b la lb lo n borrow) (ha : la.length ≤ n) (hb : lb.length ≤ n) (hle : val b lb ≤ val b la) : val b lo = val b la - val b lb := by
  have h1 := h.val_
  rw [List.take_of_length_le hb, List.take_of_length_le ha] at h1
  have h2 := val_lt h.dig
  rw [h.len] at h2
  have hc : borrow = 0 := by
    rcases Nat.eq_zero_or_pos borrow with h0 | h0
    · exact h0
    · have : b ^ n * 1 ≤ b ^ n * borrow := Nat.mul_le_mul_left _ h0
      omega
  subst hc
  omega
end Go.Proofs.Ytgilhkdmgbeieaa
