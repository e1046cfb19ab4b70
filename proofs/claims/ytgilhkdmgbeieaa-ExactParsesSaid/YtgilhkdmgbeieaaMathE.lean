/- The decimal digits of a number: plain lemmas. -/
import Derived.Test.YtgilhkdmgbeieaaMathD
namespace Go.Proofs.Ytgilhkdmgbeieaa

/-- Dividing by ten from the top: k limbs are left. -/
def ShortI (b : Nat) (l lo : List Nat) (k rest : Nat) : Prop :=
  lo.take k = l.take k ∧ val b (lo.drop k) = val b (l.drop k) / 10 ∧ rest = val b (l.drop k) % 10
theorem ShortI.start (b : Nat) (l : List Nat) (n : Nat) (h : l.length = n) : ShortI b l l n 0 := by
  refine ⟨rfl, ?_, ?_⟩ <;> rw [List.drop_of_length_le (by omega)] <;> simp [val]
theorem ShortI.step {b : Nat} {l lo : List Nat} {j rest x t : Nat} (h : ShortI b l lo (j + 1) rest) (hj : j < lo.length) (hjl : j < l.length) (hx : l.getD j 0 = x) (ht : t = rest * b + x) :
    ShortI b l (lo.set j (t / 10)) j (t % 10) := by
  obtain ⟨h1, h2, h3⟩ := h
  have e1 : l.drop j = x :: l.drop (j + 1) := by rw [List.drop_eq_getElem_cons hjl, ← hx]; simp [hjl]
  have e2 : (lo.set j (t / 10)).drop j = (t / 10) :: lo.drop (j + 1) := by
    rw [List.drop_eq_getElem_cons (by rw [List.length_set]; exact hj), drop_set_succ]; simp
  have h4 : val b (l.drop j) = 10 * (b * (val b (l.drop (j + 1)) / 10)) + t := by
    rw [e1]
    simp only [val]
    generalize val b (l.drop (j + 1)) = H at *
    have e := Nat.div_add_mod H 10
    rw [← h3] at e
    generalize H / 10 = q at *
    subst ht
    subst e
    grind
  refine ⟨?_, ?_, ?_⟩
  · rw [List.take_set, List.set_eq_of_length_le (by rw [List.length_take]; omega)]
    have := congrArg (List.take j) h1
    rw [List.take_take, List.take_take, Nat.min_eq_left (by omega)] at this
    exact this
  · rw [e2]
    simp only [val]
    rw [h2, h4]
    omega
  · rw [h4]; omega

/-- The decimal digits, the lowest one first. -/
def decF : Nat → Nat → List Nat
  | 0, _ => []
  | f + 1, n => if n = 0 then [] else n % 10 :: decF f (n / 10)
theorem decF_num : ∀ (f n : Nat), n ≤ f → Num 10 (decF f n) n
  | 0, n, h => by obtain rfl : n = 0 := by omega
                  exact Num.nil 10
  | f + 1, n, h => by
    unfold decF
    split
    · rename_i h0; subst h0; exact Num.nil 10
    · rename_i h0
      have ih := decF_num f (n / 10) (by omega)
      refine ⟨fun x hx => ?_, ?_, fun i hi => ?_⟩
      · rcases List.mem_cons.1 hx with rfl | hx
        · omega
        · exact ih.dig x hx
      · simp only [val]; rw [ih.val_]; omega
      · cases i with
        | zero =>
          have hl : (decF f (n / 10)).length = 0 := by simpa using hi
          have := (ih.zero_iff (by omega)).1 hl
          simp; omega
        | succ i =>
          have := ih.top i (by simpa using hi)
          simpa using this
def decD (n : Nat) : List Nat := decF n n
theorem decD_num (n : Nat) : Num 10 (decD n) n := decF_num n n (Nat.le_refl _)
theorem Num.dec {l : List Nat} {n : Nat} (h : Num 10 l n) : l = decD n := h.uniq (decD_num n) (by omega)
/-- The bytes of a number's text. -/
def textN (n : Nat) : List Nat := if n = 0 then [48] else (decD n).reverse.map (· + 48)
theorem decF_small {n : Nat} (h0 : 0 < n) (h : n < 10) : decD n = [n] := by
  refine (Num.dec ⟨Digs.one h, by simp [val], fun i hi => ?_⟩).symm
  obtain rfl : i = 0 := by simpa using hi.symm
  simp; omega

/-- Digits gathered so far, with what is left. -/
theorem Num10.snoc {d : List Nat} {V X x : Nat} (h : val 10 d + 10 ^ d.length * X = V) (hx : x = X % 10) : val 10 (d ++ [x]) + 10 ^ (d ++ [x]).length * (X / 10) = V := by
  rw [val_append, List.length_append, List.length_singleton, Nat.pow_succ]
  have e := Nat.div_add_mod X 10
  rw [← hx] at e
  generalize X / 10 = q at *
  subst e
  subst h
  simp only [val]
  grind

theorem map_getD (l : List Nat) (i : Nat) (h : i < l.length) : (l.map (· + 48)).getD i 0 = l.getD i 0 + 48 := by simp [h]

theorem ten_len {k X V n v : Nat} (h : v + 10 ^ k * X = V) (hX : 0 < X) (hV : V < 4294967296 ^ n) : k < 32 * n := by
  have h1 : 10 ^ k * 1 ≤ 10 ^ k * X := Nat.mul_le_mul_left _ hX
  have h2 : 2 ^ k ≤ 10 ^ k := Nat.pow_le_pow_left (by omega) k
  have h4 : (4294967296 : Nat) ^ n = 2 ^ (32 * n) := by rw [Nat.pow_mul]
  rw [h4] at hV
  exact (Nat.pow_lt_pow_iff_right (by omega)).1 (show 2 ^ k < 2 ^ (32 * n) by omega)

/-- What has been gathered of a number's digits, X left. -/
structure DecI (V X : Nat) (d : List Nat) : Prop where
  dig : Digs 10 d
  val_ : val 10 d + 10 ^ d.length * X = V
  top : X = 0 → ∀ i, d.length = i + 1 → d.getD i 0 ≠ 0
theorem DecI.start (V : Nat) : DecI V V [] := ⟨Digs.nil _, by simp [val], fun _ i h => by simp at h⟩
theorem DecI.step {V X : Nat} {d : List Nat} (h : DecI V X d) (hX : 0 < X) : DecI V (X / 10) (d ++ [X % 10]) := by
  refine ⟨h.dig.append (Digs.one (by omega)), Num10.snoc h.val_ rfl, fun h0 i hi => ?_⟩
  rw [List.length_append, List.length_singleton] at hi
  obtain rfl : d.length = i := by omega
  simp
  omega
theorem DecI.done {V : Nat} {d : List Nat} (h : DecI V 0 d) : Num 10 d V := ⟨h.dig, by have := h.val_; simpa using this, h.top rfl⟩

/-- Reversing: i elements are laid. -/
def RevI (lb lo : List Nat) (i : Nat) : Prop := lo.length = lb.length ∧ ∀ j, j < i → lo.getD (lb.length - 1 - j) 0 = lb.getD j 0
theorem RevI.step {lb lo : List Nat} {i x : Nat} (h : RevI lb lo i) (hi : i < lb.length) (hx : lb.getD i 0 = x) : RevI lb (lo.set (lb.length - 1 - i) x) (i + 1) := by
  refine ⟨by rw [List.length_set]; exact h.1, fun j hj => ?_⟩
  have hl := h.1
  by_cases hji : j = i
  · subst hji
    rw [hx, List.getD_eq_getElem?_getD, List.getElem?_set_self (by omega)]; rfl
  · rw [List.getD_eq_getElem?_getD, List.getElem?_set_ne (by omega), ← List.getD_eq_getElem?_getD]
    exact h.2 j (by omega)
theorem RevI.done {lb lo : List Nat} (h : RevI lb lo lb.length) : lo = lb.reverse := by
  refine List.ext_getElem (by rw [List.length_reverse]; exact h.1) fun k h1 h2 => ?_
  have hl := h.1
  have := h.2 (lb.length - 1 - k) (by omega)
  rw [show lb.length - 1 - (lb.length - 1 - k) = k by omega] at this
  rw [List.getElem_reverse]
  rw [List.getD_eq_getElem?_getD, List.getD_eq_getElem?_getD, List.getElem?_eq_getElem h1, List.getElem?_eq_getElem (by omega)] at this
  exact this
end Go.Proofs.Ytgilhkdmgbeieaa
