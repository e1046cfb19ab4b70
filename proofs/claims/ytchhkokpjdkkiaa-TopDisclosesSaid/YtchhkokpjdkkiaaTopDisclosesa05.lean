/- Numbers as lists of digits to a base: plain lemmas. No condition. Contracts of exact's small functions: trim, clone, Check, check, sane. Contracts of exact's bit, double, size. -/
import Derived.Test.YtchhkokpjdkkiaaProg
import Derived.Test.YtchhkokpjdkkiaaTopDisclosesa04
namespace Go.Proofs.Ytchhkokpjdkkiaa.Ex

def val (b : Nat) : List Nat → Nat
  | [] => 0
  | x :: l => x + b * val b l

def Digs (b : Nat) (l : List Nat) : Prop := ∀ x ∈ l, x < b

theorem val_append (b : Nat) (l m : List Nat) : val b (l ++ m) = val b l + b ^ l.length * val b m := by
  induction l with
  | nil => simp [val]
  | cons x l ih => simp only [List.cons_append, val, ih, List.length_cons, Nat.pow_succ]; grind

theorem val_lt {b : Nat} {l : List Nat} (h : Digs b l) : val b l < b ^ l.length := by
  induction l with
  | nil => simp [val]
  | cons x l ih =>
    have h1 := ih (fun y hy => h y (List.mem_cons_of_mem _ hy))
    have h2 := h x List.mem_cons_self
    simp only [val, List.length_cons, Nat.pow_succ]
    have : b * (val b l + 1) ≤ b * b ^ l.length := Nat.mul_le_mul_left _ h1
    have e : b * (val b l + 1) = b * val b l + b := by grind
    have e2 : b * b ^ l.length = b ^ l.length * b := Nat.mul_comm _ _
    omega

theorem take_succ_getD (l : List Nat) (i : Nat) (h : i < l.length) : l.take (i + 1) = l.take i ++ [l.getD i 0] := by
  rw [List.take_add_one, List.getElem?_eq_getElem h]; simp [h]

theorem val_take_succ (b : Nat) (l : List Nat) (i : Nat) : val b (l.take (i + 1)) = val b (l.take i) + b ^ i * l.getD i 0 := by
  rcases Nat.lt_or_ge i l.length with h | h
  · rw [take_succ_getD l i h, val_append, List.length_take, Nat.min_eq_left (by omega)]
    simp [val]
  · rw [List.take_of_length_le (by omega), List.take_of_length_le h]
    simp [List.getElem?_eq_none h]

theorem Digs.take {b : Nat} {l : List Nat} (h : Digs b l) (i : Nat) : Digs b (l.take i) := fun x hx => h x (List.mem_of_mem_take hx)
theorem Digs.append {b : Nat} {l m : List Nat} (h : Digs b l) (h' : Digs b m) : Digs b (l ++ m) := fun x hx => by
  rcases List.mem_append.1 hx with hx | hx
  · exact h x hx
  · exact h' x hx
theorem Digs.nil (b : Nat) : Digs b [] := fun x hx => by cases hx
theorem Digs.one {b x : Nat} (h : x < b) : Digs b [x] := fun y hy => by simp at hy; omega
theorem Digs.getD {b : Nat} {l : List Nat} (h : Digs b l) (hb : 0 < b) (i : Nat) : l.getD i 0 < b := by
  rcases Nat.lt_or_ge i l.length with hi | hi
  · rw [List.getD_eq_getElem?_getD, List.getElem?_eq_getElem hi]; exact h _ (List.getElem_mem hi)
  · simp [List.getElem?_eq_none hi]; exact hb
theorem Digs.set {b : Nat} {l : List Nat} (h : Digs b l) (i y : Nat) (hy : y < b) : Digs b (l.set i y) := fun x hx => by
  rcases List.mem_or_eq_of_mem_set hx with hx | hx
  · exact h x hx
  · omega
theorem Digs.replicate {b : Nat} (hb : 0 < b) (n : Nat) : Digs b (List.replicate n 0) := fun x hx => by
  have := List.eq_of_mem_replicate hx; omega

theorem val_replicate (b n : Nat) : val b (List.replicate n 0) = 0 := by
  induction n with
  | zero => rfl
  | succ n ih => simp [List.replicate_succ, val, ih]

theorem take_set_succ (l : List Nat) (i y : Nat) (h : i < l.length) : (l.set i y).take (i + 1) = l.take i ++ [y] := by
  rw [List.take_add_one]
  rw [List.take_set, List.set_eq_of_length_le (by rw [List.length_take]; omega)]
  simp [h]

/-- Where a trimmed list ends. -/
def trimN (l : List Nat) : Nat → Nat
  | 0 => 0
  | n + 1 => if l.getD n 0 = 0 then trimN l n else n + 1
theorem trimN_le (l : List Nat) (n : Nat) : trimN l n ≤ n := by
  induction n with
  | zero => simp [trimN]
  | succ n ih => unfold trimN; split <;> omega
theorem trimN_top (l : List Nat) (n i : Nat) (h : trimN l n = i + 1) : l.getD i 0 ≠ 0 := by
  induction n with
  | zero => simp [trimN] at h
  | succ n ih =>
    unfold trimN at h
    split at h
    · exact ih h
    · rename_i h0; have : n = i := by omega
      subst this; exact h0
theorem val_trimN (b : Nat) (l : List Nat) (n : Nat) : val b (l.take (trimN l n)) = val b (l.take n) := by
  induction n with
  | zero => simp [trimN]
  | succ n ih =>
    unfold trimN
    split
    · rename_i h0; rw [ih, val_take_succ, h0]; simp
    · rfl
theorem trimN_self {l : List Nat} (h : ∀ i, l.length = i + 1 → l.getD i 0 ≠ 0) : trimN l l.length = l.length := by
  cases hl : l.length with
  | zero => rfl
  | succ n => unfold trimN; rw [if_neg (h n hl)]

/-- A list of digits for a number; normal: no zero at the end. -/
structure Num (b : Nat) (l : List Nat) (n : Nat) : Prop where
  dig : Digs b l
  val_ : val b l = n
  top : ∀ i, l.length = i + 1 → l.getD i 0 ≠ 0

theorem Num.nil (b : Nat) : Num b [] 0 := ⟨Digs.nil b, rfl, fun i h => by simp at h⟩
theorem Num.trim {b : Nat} {l : List Nat} (h : Digs b l) (n : Nat) : Num b (l.take (trimN l n)) (val b (l.take n)) := by
  refine ⟨h.take _, val_trimN b l n, fun i hi => ?_⟩
  have hle : (l.take (trimN l n)).length ≤ trimN l n := List.length_take_le _ _
  have hlen : (l.take (trimN l n)).length = min (trimN l n) l.length := List.length_take
  rcases Nat.lt_or_ge (i + 1) (trimN l n) with hlt | hge
  · -- the list is shorter than trimN says: its digit there is 0: it can't be the top
    cases ht : trimN l n with
    | zero => omega
    | succ t =>
      have := trimN_top l n t ht
      have hl : l.length ≤ t := by omega
      rw [List.getD_eq_getElem?_getD, List.getElem?_eq_none hl] at this
      exact absurd rfl this
  · have ht : trimN l n = i + 1 := by omega
    have := trimN_top l n i ht
    rw [ht]
    simpa using this
theorem Num.pos {b : Nat} {l : List Nat} {n : Nat} (h : Num b l n) {i : Nat} (hi : l.length = i + 1) (_hb : 0 < b) : b ^ i ≤ n := by
  have e := val_take_succ b l i
  rw [List.take_of_length_le (by omega), h.val_] at e
  have := h.top i hi
  have h1 : b ^ i * 1 ≤ b ^ i * l.getD i 0 := Nat.mul_le_mul_left _ (by omega)
  omega
theorem Num.lt {b : Nat} {l : List Nat} {n : Nat} (h : Num b l n) : n < b ^ l.length := by rw [← h.val_]; exact val_lt h.dig
theorem Num.length_le {b : Nat} {l : List Nat} {n : Nat} (h : Num b l n) (hb : 1 < b) (k : Nat) : l.length ≤ k ↔ n < b ^ k := by
  constructor
  · intro hk; exact Nat.lt_of_lt_of_le h.lt (Nat.pow_le_pow_right (by omega) hk)
  · intro hn
    cases hl : l.length with
    | zero => omega
    | succ i =>
      have h1 := h.pos hl (by omega)
      rcases Nat.lt_or_ge i k with hik | hik
      · omega
      · have := Nat.pow_le_pow_right (n := b) (by omega) hik; omega
theorem Num.zero_iff {b : Nat} {l : List Nat} {n : Nat} (h : Num b l n) (hb : 1 < b) : l.length = 0 ↔ n = 0 := by
  have := h.length_le hb 0
  simp at this
  simp [this]

theorem val_mod {b : Nat} (x : Nat) (l : List Nat) (h : x < b) : (x + b * val b l) % b = x ∧ (x + b * val b l) / b = val b l := by
  have hb : 0 < b := by omega
  constructor
  · rw [Nat.add_mul_mod_self_left, Nat.mod_eq_of_lt h]
  · rw [Nat.add_mul_div_left _ _ hb, Nat.div_eq_of_lt h, Nat.zero_add]

theorem digs_uniq {b : Nat} : ∀ {l m : List Nat}, Digs b l → Digs b m → l.length = m.length → val b l = val b m → l = m
  | [], [], _, _, _, _ => rfl
  | [], _ :: _, _, _, h, _ => by simp at h
  | _ :: _, [], _, _, h, _ => by simp at h
  | x :: l, y :: m, hl, hm, hlen, hv => by
    have h1 := val_mod x l (hl x List.mem_cons_self)
    have h2 := val_mod y m (hm y List.mem_cons_self)
    simp only [val] at hv
    rw [hv] at h1
    have e1 : x = y := by rw [← h1.1, h2.1]
    have e2 : val b l = val b m := by rw [← h1.2, h2.2]
    subst e1
    rw [digs_uniq (fun z hz => hl z (List.mem_cons_of_mem _ hz)) (fun z hz => hm z (List.mem_cons_of_mem _ hz)) (by simpa using hlen) e2]

theorem Num.uniq {b : Nat} {l m : List Nat} {n : Nat} (h : Num b l n) (h' : Num b m n) (hb : 1 < b) : l = m := by
  refine digs_uniq h.dig h'.dig ?_ (by rw [h.val_, h'.val_])
  have h1 := (h.length_le hb m.length).2 h'.lt
  have h2 := (h'.length_le hb l.length).2 h.lt
  omega

/-- A sum, digit by digit: what holds after i rounds. -/
def PlusI (b : Nat) (la lb lo : List Nat) (i carry : Nat) : Prop :=
  val b (lo.take i) + b ^ i * carry = val b (la.take i) + val b (lb.take i)
theorem PlusI.step {b : Nat} {la lb lo : List Nat} {i carry y : Nat} (h : PlusI b la lb lo i carry) (hi : i < lo.length) (hy : y = (carry + la.getD i 0 + lb.getD i 0) % b) :
    PlusI b la lb (lo.set i y) (i + 1) ((carry + la.getD i 0 + lb.getD i 0) / b) := by
  unfold PlusI at h ⊢
  rw [take_set_succ _ _ _ hi, val_append, val_take_succ, val_take_succ, List.length_take, Nat.min_eq_left (by omega), Nat.pow_succ]
  have e := Nat.div_add_mod (carry + la.getD i 0 + lb.getD i 0) b
  rw [← hy] at e
  simp only [val]
  grind
theorem PlusI.done {b : Nat} {la lb lo : List Nat} {M carry : Nat} (h : PlusI b la lb lo (M + 1) carry) (hb2 : 2 ≤ b) (ha : la.length ≤ M) (hb : lb.length ≤ M) (hda : Digs b la) (hdb : Digs b lb) (hl : lo.length = M + 1) :
    val b lo = val b la + val b lb := by
  unfold PlusI at h
  rw [List.take_of_length_le (by omega), List.take_of_length_le (by omega), List.take_of_length_le (by omega)] at h
  have h1 := val_lt hda
  have h2 := val_lt hdb
  have h3 : b ^ la.length ≤ b ^ M := Nat.pow_le_pow_right (by omega) ha
  have h4 : b ^ lb.length ≤ b ^ M := Nat.pow_le_pow_right (by omega) hb
  have h5 : b ^ M * 2 ≤ b ^ (M + 1) := by rw [Nat.pow_succ]; exact Nat.mul_le_mul_left _ hb2
  have hc : carry = 0 := by
    rcases Nat.eq_zero_or_pos carry with h0 | h0
    · exact h0
    · have : b ^ (M + 1) * 1 ≤ b ^ (M + 1) * carry := Nat.mul_le_mul_left _ h0
      omega
  subst hc
  omega
theorem val_split (b : Nat) (l : List Nat) (k : Nat) : val b l = val b (l.take k) + b ^ k * val b (l.drop k) := by
  rcases Nat.lt_or_ge l.length k with h | h
  · rw [List.take_of_length_le (by omega), List.drop_of_length_le (by omega)]; simp [val]
  · have := val_append b (l.take k) (l.drop k)
    rw [List.take_append_drop, List.length_take, Nat.min_eq_left h] at this
    exact this

theorem val_lt_of_digit {b : Nat} {la lb : List Nat} {k : Nat} (hb : 0 < b) (hda : Digs b la) (h : la.drop (k + 1) = lb.drop (k + 1)) (hlt : la.getD k 0 < lb.getD k 0) : val b la < val b lb := by
  have e1 := val_split b la (k + 1)
  have e2 := val_split b lb (k + 1)
  rw [val_take_succ, h] at e1
  rw [val_take_succ] at e2
  have h1 : val b (la.take k) < b ^ k := Nat.lt_of_lt_of_le (val_lt (hda.take k)) (Nat.pow_le_pow_right hb (List.length_take_le _ _))
  have h2 : b ^ k * (la.getD k 0 + 1) ≤ b ^ k * lb.getD k 0 := Nat.mul_le_mul_left _ hlt
  rw [Nat.mul_add, Nat.mul_one] at h2
  omega

theorem drop_eq_succ {la lb : List Nat} {k : Nat} (h : la.drop (k + 1) = lb.drop (k + 1)) (ha : k < la.length) (hb : k < lb.length) (he : la.getD k 0 = lb.getD k 0) : la.drop k = lb.drop k := by
  rw [List.drop_eq_getElem_cons ha, List.drop_eq_getElem_cons hb, h]
  simp [ha, hb] at he
  rw [he]

theorem Num.lt_of_length {b : Nat} {l m : List Nat} {x y : Nat} (hl : Num b l x) (hm : Num b m y) (hb : 0 < b) (h : l.length < m.length) : x < y := by
  obtain ⟨i, hi⟩ : ∃ i, m.length = i + 1 := ⟨m.length - 1, by omega⟩
  have h1 := hm.pos hi hb
  have h2 := hl.lt
  have h3 : b ^ l.length ≤ b ^ i := Nat.pow_le_pow_right hb (by omega)
  omega

/-- How two numbers compare. -/
def ordI (x y : Nat) : Int := if x < y then -1 else if x = y then 0 else 1
theorem ordI_lt {x y : Nat} (h : x < y) : ordI x y = -1 := if_pos h
theorem ordI_gt {x y : Nat} (h : y < x) : ordI x y = 1 := by unfold ordI; rw [if_neg (by omega), if_neg (by omega)]
theorem ordI_eq {x y : Nat} (h : x = y) : ordI x y = 0 := by unfold ordI; rw [if_neg (by omega), if_pos h]
theorem val_bit (l : List Nat) (i : Nat) (hd : Digs 4294967296 l) : val 4294967296 l / 2 ^ i % 2 = l.getD (i / 32) 0 / 2 ^ (i % 32) % 2 := by
  obtain ⟨q, hq⟩ : ∃ q, i / 32 = q := ⟨_, rfl⟩
  obtain ⟨r, hr⟩ : ∃ r, i % 32 = r := ⟨_, rfl⟩
  rw [hq, hr]
  have hi : i = 32 * q + r := by omega
  have hr' : r < 32 := by omega
  have e := val_split 4294967296 l (q + 1)
  rw [val_take_succ] at e
  have h1 : val 4294967296 (l.take q) < 4294967296 ^ q := Nat.lt_of_lt_of_le (val_lt (hd.take q)) (Nat.pow_le_pow_right (by decide) (List.length_take_le _ _))
  obtain ⟨b, hb⟩ : ∃ b : Nat, 4294967296 = b := ⟨_, rfl⟩
  have hbp : b = 2 ^ r * (2 * 2 ^ (31 - r)) := by
    rw [← hb, ← Nat.pow_succ', ← Nat.pow_add, show r + (31 - r).succ = 32 by omega]
  have hpq : 2 ^ i = b ^ q * 2 ^ r := by rw [hi, Nat.pow_add, Nat.pow_mul, ← hb]
  rw [hb] at e h1 ⊢
  rw [hpq, ← Nat.div_div_eq_div_mul]
  have e2 : val b l = val b (l.take q) + b ^ q * (l.getD q 0 + b * val b (l.drop (q + 1))) := by rw [e, Nat.pow_succ]; grind
  rw [e2, Nat.add_mul_div_left _ _ (by omega), Nat.div_eq_of_lt h1, Nat.zero_add]
  obtain ⟨x, hx⟩ : ∃ x, l.getD q 0 = x := ⟨_, rfl⟩
  obtain ⟨R, hR⟩ : ∃ R, val b (l.drop (q + 1)) = R := ⟨_, rfl⟩
  rw [hx, hR, show x + b * R = x + 2 ^ r * (2 * (2 ^ (31 - r) * R)) by rw [hbp]; grind, Nat.add_mul_div_left _ _ (Nat.two_pow_pos r)]
  omega

/-- Doubling, digit by digit. -/
theorem dbl_step {b : Nat} {l lo : List Nat} {i low low0 x : Nat} (hb : b = 4294967296) (h : val b (lo.take i) + b ^ i * low = 2 * val b (l.take i) + low0) (hi : i < lo.length) (hx : l.getD i 0 = x) :
    val b ((lo.set i (x * 2 % b + low)).take (i + 1)) + b ^ (i + 1) * (x / 2147483648) = 2 * val b (l.take (i + 1)) + low0 := by
  rw [take_set_succ _ _ _ hi, val_append, val_take_succ, List.length_take, Nat.min_eq_left (by omega), Nat.pow_succ, hx]
  have e : x * 2 % b + b * (x / 2147483648) = 2 * x := by rw [hb]; omega
  simp only [val]
  grind

theorem drop_set_succ {l : List Nat} {i y : Nat} : (l.set i y).drop (i + 1) = l.drop (i + 1) := by
  rw [List.drop_set, if_pos (by omega)]
theorem drop_succ_of {l m : List Nat} {i : Nat} (h : l.drop i = m.drop i) : l.drop (i + 1) = m.drop (i + 1) := by
  rw [← List.drop_drop, ← List.drop_drop, h]
theorem getD_of_drop {l m : List Nat} {i : Nat} (h : l.drop i = m.drop i) : l.getD i 0 = m.getD i 0 := by
  have h1 : l[i]? = m[i]? := by
    have := congrArg (fun l : List Nat => l[0]?) h
    simpa using this
  simp [h1]

/-- How many binary digits a number has. -/
def bitsN (n : Nat) : Nat := if n = 0 then 0 else n.log2 + 1
theorem bitsN_le (n k : Nat) : bitsN n ≤ k ↔ n < 2 ^ k := by
  unfold bitsN
  split
  · rename_i h; subst h; simp [Nat.two_pow_pos]
  · rename_i h
    have := @Nat.log2_lt n k h
    omega
theorem bitsN_zero : bitsN 0 = 0 := rfl
theorem bitsN_pos {n : Nat} (h : 0 < n) : 0 < bitsN n := by unfold bitsN; rw [if_neg (by omega)]; omega
theorem bitsN_half {n : Nat} (h : 0 < n) : bitsN n = bitsN (n / 2) + 1 := by
  have h1 : ∀ k, bitsN n ≤ k + 1 ↔ bitsN (n / 2) ≤ k := fun k => by rw [bitsN_le, bitsN_le, Nat.pow_succ]; omega
  have h2 := bitsN_pos h
  have h3 := (h1 (bitsN (n / 2))).2 (Nat.le_refl _)
  have h4 := (h1 (bitsN n - 1)).1 (by omega)
  omega
theorem bitsN_uniq {n k : Nat} (h1 : 2 ^ k ≤ n) (h2 : n < 2 ^ (k + 1)) : bitsN n = k + 1 := by
  have := (bitsN_le n (k + 1)).2 h2
  have h3 : ¬ bitsN n ≤ k := fun h => by have := (bitsN_le n k).1 h; omega
  omega
theorem bitsN_lo {n : Nat} (h : 0 < n) : 2 ^ (bitsN n - 1) ≤ n := by
  rcases Nat.lt_or_ge n (2 ^ (bitsN n - 1)) with hlt | hge
  · have := (bitsN_le n (bitsN n - 1)).2 hlt
    have := bitsN_pos h
    omega
  · exact hge
/-- The bits of a number out of those of its top limb. -/
theorem bitsN_add {T x b k : Nat} (hb : b = 2 ^ k) (hT : T < b) (hx : 0 < x) : bitsN (T + b * x) = k + bitsN x := by
  obtain ⟨m, hm⟩ : ∃ m, bitsN x = m + 1 := ⟨bitsN x - 1, by have := bitsN_pos hx; omega⟩
  have h1 := bitsN_lo hx
  have h2 := (bitsN_le x (m + 1)).1 (by omega)
  rw [hm] at h1 ⊢
  simp only [Nat.add_sub_cancel] at h1
  have e1 : 2 ^ (k + m) = b * 2 ^ m := by rw [Nat.pow_add, hb]
  have e2 : 2 ^ (k + m + 1) = b * 2 ^ (m + 1) := by rw [Nat.add_assoc, Nat.pow_add, hb]
  rw [← Nat.add_assoc]
  refine bitsN_uniq ?_ ?_
  · rw [e1]
    have := Nat.mul_le_mul_left b h1
    omega
  · rw [e2]
    have := Nat.mul_le_mul_left b (show x + 1 ≤ 2 ^ (m + 1) from h2)
    rw [Nat.mul_add, Nat.mul_one] at this
    omega
theorem bitsN_val {l : List Nat} {n i : Nat} (h : Num 4294967296 l n) (hi : l.length = i + 1) : bitsN n = 32 * i + bitsN (l.getD i 0) := by
  have e := val_take_succ 4294967296 l i
  rw [List.take_of_length_le (by omega), h.val_] at e
  rw [e]
  refine bitsN_add (by rw [Nat.pow_mul]) ?_ (Nat.pos_of_ne_zero (h.top i hi))
  have h1 := val_lt (h.dig.take i)
  rwa [List.length_take, Nat.min_eq_left (by omega)] at h1
/-- A difference, digit by digit. -/
def MinusI (b : Nat) (la lb lo : List Nat) (i borrow : Nat) : Prop :=
  val b (lo.take i) + val b (lb.take i) = val b (la.take i) + b ^ i * borrow
theorem MinusI.step {b : Nat} {la lb lo : List Nat} {i borrow borrow' x y z : Nat} (h : MinusI b la lb lo i borrow) (hi : i < lo.length) (hx : la.getD i 0 = x) (hy : lb.getD i 0 = y)
    (hz : z + y + borrow = x + b * borrow') : MinusI b la lb (lo.set i z) (i + 1) borrow' := by
  unfold MinusI at h ⊢
  rw [take_set_succ _ _ _ hi, val_append, val_take_succ, val_take_succ, List.length_take, Nat.min_eq_left (by omega), Nat.pow_succ, hx, hy]
  simp only [val]
  grind
theorem MinusI.done {b : Nat} {la lb lo : List Nat} {n borrow : Nat} (h : MinusI b la lb lo n borrow) (ha : la.length ≤ n) (hb : lb.length ≤ n) (hl : lo.length = n) (hdo : Digs b lo) (hle : val b lb ≤ val b la) :
    val b lo = val b la - val b lb := by
  unfold MinusI at h
  rw [List.take_of_length_le (by omega), List.take_of_length_le hb, List.take_of_length_le ha] at h
  have h1 := val_lt hdo
  rw [hl] at h1
  have hc : borrow = 0 := by
    rcases Nat.eq_zero_or_pos borrow with h0 | h0
    · exact h0
    · have : b ^ n * 1 ≤ b ^ n * borrow := Nat.mul_le_mul_left _ h0
      omega
  subst hc
  omega

/-- Halving, digit by digit. -/
def HalfI (b : Nat) (l lo : List Nat) (i : Nat) : Prop :=
  lo.drop i = l.drop i ∧ 2 * val b (lo.take i) + l.getD 0 0 % 2 = val b (l.take i) + b ^ i * (l.getD i 0 % 2)
theorem HalfI.start (b : Nat) (l : List Nat) : HalfI b l l 0 := ⟨rfl, by simp [val]⟩
theorem HalfI.step {b : Nat} {l lo : List Nat} {i x y z : Nat} (h : HalfI b l lo i) (hi : i < lo.length) (hx : l.getD i 0 = x) (hy : l.getD (i + 1) 0 = y)
    (hz : 2 * z + x % 2 = x + b * (y % 2)) : HalfI b l (lo.set i z) (i + 1) := by
  refine ⟨by rw [drop_set_succ]; exact drop_succ_of h.1, ?_⟩
  have h2 := h.2
  rw [take_set_succ _ _ _ hi, val_append, val_take_succ, List.length_take, Nat.min_eq_left (by omega), Nat.pow_succ, hx, hy]
  rw [hx] at h2
  generalize y % 2 = y2 at *
  generalize x % 2 = x2 at *
  simp only [val]
  grind
theorem HalfI.done {b : Nat} {l lo : List Nat} {n : Nat} (h : HalfI b l lo n) (hb : b = 4294967296) (hn : l.length = n) (hlo : lo.length = n) : val b lo = val b l / 2 := by
  have h2 := h.2
  rw [List.take_of_length_le (by omega), List.take_of_length_le (by omega)] at h2
  have h3 : l.getD n 0 = 0 := by simp [← hn]
  rw [h3] at h2
  have h4 : val b l % 2 = l.getD 0 0 % 2 := by
    cases l with
    | nil => rfl
    | cons x l =>
      simp only [val, List.getD_cons_zero]
      rw [hb, Nat.add_mod, Nat.mul_mod]
      omega
  omega
end Go.Proofs.Ytchhkokpjdkkiaa.Ex

namespace Go.Proofs.Ytchhkokpjdkkiaa.Ex
open Go.RowKit

theorem info_u32 : (Try.prog.info? 184).map (fun i => (i.zero, i.size, i.bytes)) = some (some (.int .u32 0), 1, 4) := by kernel_rfl
theorem info_int : (Try.prog.info? 3).map (fun i => (i.zero, i.size, i.bytes)) = some (some (.int .i64 0), 1, 8) := by kernel_rfl

set_option maxHeartbeats 400000 in
theorem trim_c (A : Option Addr) (n c : Nat) (l : List Nat) (w : World) (B : Nat) (h : Sl w B .u32 A n c l) :
    Calls Try.prog 119 #[.slice A n c] w fun e w' => e = .returned (.slice A (trimN l n) c) ∧ w = w' := by
  have hcap := h.cap
  have hmax := h.max
  go_enter Try.func119, Try.ntmps119
  go_wp2
  go_loop [3] (fun v => ∃ k : Nat, k ≤ n ∧ v = .int .i64 k ∧ trimN l k = trimN l n) (fun v => (intOf v).toNat)
  case atStart => exact ⟨n, Nat.le_refl _, rfl, rfl⟩
  case round =>
    obtain ⟨k, hk, rfl, ht⟩ := hrel
    have HT := hide ht
    clear ht
    by_cases h0 : 0 < k
    · obtain ⟨k, rfl⟩ : ∃ j, k = j + 1 := ⟨k - 1, by omega⟩
      obtain ⟨b, off, x, rfl, hb, hx, hm, hcx⟩ := h.cell (i := k) (by omega)
      have HX := hide hx
      clear hx h
      go_wp2
      · go_round
        case rel =>
          refine ⟨k, by omega, by go_num, ?_⟩
          rw [← HT.out, trimN, if_pos]
          rw [HX.out]
          have h0 : ((x : Int) == 0) = true := by assumption
          simpa using h0
        case measure => simp [intOf] <;> omega
      · go_ret
        have h0 : ((x : Int) == 0) = false := by assumption
        refine ⟨?_, rfl⟩
        rw [← HT.out, trimN, if_neg (by rw [HX.out]; simpa using h0)]; rfl
    · obtain rfl : k = 0 := by omega
      clear h
      go_wp2
      go_ret
      exact ⟨by rw [← HT.out]; rfl, rfl⟩
/-- trim, in words of numbers. -/
theorem trim_n (A : Option Addr) (n c : Nat) (l : List Nat) (w : World) (B : Nat) (h : Sl w B .u32 A n c l) (hd : Digs 4294967296 l) :
    Calls Try.prog 119 #[.slice A n c] w fun e w' => ∃ m, m ≤ n ∧ e = .returned (.slice A m c) ∧ Num 4294967296 (l.take m) (val 4294967296 l) ∧ w = w' :=
  (trim_c A n c l w B h).mono fun e w' ⟨he, hw⟩ => ⟨_, trimN_le l n, he, by
    have := Num.trim hd n
    rwa [show l.take n = l from List.take_of_length_le (Nat.le_of_eq h.len)] at this, hw⟩

/-- A number in new memory. -/
def NatR (w : World) (N : Nat) (e : Ending) (w' : World) : Prop :=
  ∃ g n c l, e = .returned (.slice (some ⟨g, 0, none⟩) n c) ∧ Own w' w.heap.size 184 .u32 (some ⟨g, 0, none⟩) n c l ∧ Num 4294967296 l N ∧ Below w.heap.size w w'

set_option maxHeartbeats 400000 in
theorem clone_c (A : Option Addr) (n c : Nat) (l : List Nat) (w : World) (B : Nat) (h : Sl w B .u32 A n c l) (hB : B ≤ w.heap.size) (hd : Digs 4294967296 l) (hn : n ≤ 1099511627776) :
    Calls Try.prog 86 #[.slice A n c] w (NatR w (val 4294967296 l)) := by
  have htr := trimN_le l n
  go_enter Try.func86, Try.ntmps86
  go_wp2_with (first
    | (go_at_call 119; refine (trim_c _ _ _ _ _ _ h).mono ?_; rintro e w' ⟨rfl, rfl⟩)
    | (at_make; refine wl_make _ rfl _ _ _ rfl 184 .u32 4 Try.underlying129 info_u32 (by omega) _ _ (trimN l n) rfl rfl rfl rfl (by omega) ?_; intro w1 hown hgr hsz)
    | (with_reducible refine wl_copy _ rfl _ _ _ _ rfl w.heap.size 184 .u32 4 Try.underlying129 info_u32 _ _ _ _ rfl hown _ _ _ _ rfl B ((h.take htr).below ((Below.refl _ _).grown hgr hB (fun k hk => by cases hk))) ?_; intro w2 hown2 hgr2))
  go_ret
  have hl : (l.take (trimN l n)).length = trimN l n := by rw [List.length_take, h.len]; omega
  have e : (l.take (trimN l n)).take (trimN l n) ++ (List.replicate (trimN l n) 0).drop (trimN l n) = l.take (trimN l n) := by
    rw [List.drop_of_length_le (by simp), List.append_nil, List.take_take, Nat.min_self]
  rw [e] at hown2
  refine ⟨_, _, _, _, rfl, hown2, ?_, ((Below.refl _ _).grown hgr (Nat.le_refl _) (fun k hk => by cases hk)).grown hgr2 (by omega) (fun k hk => by cases hk; omega)⟩
  have := Num.trim hd n
  rwa [show l.take n = l from List.take_of_length_le (Nat.le_of_eq h.len)] at this
set_option maxHeartbeats 800000 in
theorem plus_c (A : Option Addr) (na ca : Nat) (la : List Nat) (A' : Option Addr) (nb cb : Nat) (lb : List Nat) (w : World) (B : Nat) (ha : Sl w B .u32 A na ca la) (hb : Sl w B .u32 A' nb cb lb)
    (hB : B ≤ w.heap.size) (hda : Digs 4294967296 la) (hdb : Digs 4294967296 lb) (hna : na ≤ 1073741824) (hnb : nb ≤ 1073741824) :
    Calls Try.prog 113 #[.slice A na ca, .slice A' nb cb] w (NatR w (val 4294967296 la + val 4294967296 lb)) := by
  obtain ⟨M, HM, h1, h2, h3⟩ : ∃ M : Nat, Hid (max na nb = M) ∧ na ≤ M ∧ nb ≤ M ∧ M ≤ 1073741824 := ⟨_, rfl, by omega, by omega, by omega⟩
  go_enter Try.func113, Try.ntmps113
  go_wp2_with (first
    | (with_reducible refine wl_max _ rfl _ _ _ rfl _ _ _ _ (M : Nat) rfl rfl (by have := HM.out; omega) ?_)
    | (at_make; refine wl_make _ rfl _ _ _ rfl 184 .u32 4 Try.underlying129 info_u32 (by omega) _ _ (M + 1) rfl rfl (by omega) (by omega) (by omega) ?_; intro w1 hown hgr hsz))
  have hbel : Below w.heap.size w w1 := (Below.refl _ _).grown hgr (Nat.le_refl _) (fun k hk => by cases hk)
  clear hgr
  go_loopw [6, 17] (fun cv iv wr => ∃ (i carry : Nat) (lo : List Nat), i ≤ M + 1 ∧ iv = .int .i64 i ∧ cv = .int .u64 carry ∧ carry < 2 ∧
      Own wr w.heap.size 184 .u32 (some ⟨w.heap.size, 0, none⟩) (M + 1) (M + 1) lo ∧ Digs 4294967296 lo ∧ PlusI 4294967296 la lb lo i carry ∧ Below w.heap.size w wr)
    (fun _ iv _ => M + 1 - (intOf iv).toNat)
  case atStart => exact ⟨0, 0, _, by omega, rfl, rfl, by omega, hown, Digs.replicate (by omega) _, rfl, hbel⟩
  case round =>
    obtain ⟨i, carry, lo, hi, rfl, rfl, hc, ho, hdo, hI, hbw⟩ := hrel
    by_cases hlt : i < M + 1
    · obtain ⟨z, _, _, hcz⟩ := ho.cell hlt
      have hfz := ho.frozen i
      rcases (ha.below (hbw.mono hB)).cell_or hda (by omega) i with ⟨hia, b1, o1, x, rfl, hcx, HX, hx1⟩ | ⟨hia, x, hx0, HX, hx1⟩ <;>
      rcases (hb.below (hbw.mono hB)).cell_or hdb (by omega) i with ⟨hib, b2, o2, y, rfl, hcy, HY, hy1⟩ | ⟨hib, y, hy0, HY, hy1⟩ <;>
      (go_wp2
       go_roundw
       case rel =>
         have hs := hI.step (y := (carry + x + y) % 4294967296) (by rw [ho.len]; omega) (by rw [HX.out, HY.out])
         rw [HX.out, HY.out] at hs
         exact ⟨i + 1, (carry + x + y) / 4294967296, _, by omega, by go_num, by go_num, by omega, ho.store i ((carry + x + y) % 4294967296) (by go_num), hdo.set _ _ (by omega), hs, hbw.setCell (Nat.le_refl _) _⟩
       case measure => simp [intOf] <;> omega)
    · obtain rfl : i = M + 1 := by omega
      go_wp2_with (go_at_call 119; refine (trim_c _ _ _ _ _ _ ho.sl).mono ?_; rintro e w' ⟨rfl, rfl⟩)
      go_ret
      have hv := Num.trim hdo (M + 1)
      rw [show lo.take (M + 1) = lo from List.take_of_length_le (Nat.le_of_eq ho.len), hI.done (by omega) (by rw [ha.len]; exact h1) (by rw [hb.len]; exact h2) hda hdb ho.len] at hv
      exact ⟨_, _, _, _, rfl, ho.take (trimN_le _ _), hv, hbw⟩
end Go.Proofs.Ytchhkokpjdkkiaa.Ex

namespace Go.Proofs.Ytchhkokpjdkkiaa.Ex
open Go.RowKit

theorem ret_int {k : IntKind} {a b : Int} (h : a = b) : Ending.returned (.int k a) = .returned (.int k b) := by rw [h]

set_option maxHeartbeats 400000 in
theorem bit_c (A : Option Addr) (n c : Nat) (l : List Nat) (w : World) (B : Nat) (i : Nat) (h : Sl w B .u32 A n c l) (hd : Digs 4294967296 l) (hi : i / 32 < n) (hn : n ≤ 1099511627776) :
    Calls Try.prog 131 #[.slice A n c, .int .i64 i] w fun e w' => e = .returned (.int .u32 (val 4294967296 l / 2 ^ i % 2 : Nat)) ∧ w = w' := by
  obtain ⟨b, o, x, rfl, hb, hx, hm, hc⟩ := h.cell hi
  have hx1 := hd x hm
  have HX := hide hx
  clear hx
  have h1 : i % 32 < 32 := Nat.mod_lt _ (by omega)
  go_enter Try.func131, Try.ntmps131
  go_wp2
  go_ret
  refine ⟨ret_int ?_, rfl⟩
  rw [val_bit l i hd, HX.out]
  have e : ((x : Int) / 2 ^ (i % 32)) = ((x / 2 ^ (i % 32) : Nat) : Int) := by push_cast; rfl
  show bits .and .u32 ((x : Int) / 2 ^ (i % 32)) 1 = _
  rw [e, u32_and1 _ (Nat.lt_of_le_of_lt (Nat.div_le_self _ _) hx1)]

set_option maxHeartbeats 400000 in
theorem double_c (g n c : Nat) (l : List Nat) (w : World) (base : Nat) (low : Nat) (h : Own w base 184 .u32 (some ⟨g, 0, none⟩) n c l) (hd : Digs 4294967296 l) (hl : low < 2) (hn : n ≤ 1099511627776) :
    Calls Try.prog 134 #[.slice (some ⟨g, 0, none⟩) n c, .int .u32 low] w fun e w' => e = .returned (.tuple #[]) ∧
      ∃ lo, Own w' base 184 .u32 (some ⟨g, 0, none⟩) n c lo ∧ Digs 4294967296 lo ∧ (∃ out, val 4294967296 lo + 4294967296 ^ n * out = 2 * val 4294967296 l + low) ∧ w.grownBy w' (some g) := by
  go_enter Try.func134, Try.ntmps134
  go_wp2
  go_loopw [1, 8] (fun lv iv wr => ∃ (i low' : Nat) (lo : List Nat), i ≤ n ∧ iv = .int .i64 i ∧ lv = .int .u32 low' ∧ low' < 2 ∧
      Own wr base 184 .u32 (some ⟨g, 0, none⟩) n c lo ∧ Digs 4294967296 lo ∧ lo.drop i = l.drop i ∧ val 4294967296 (lo.take i) + 4294967296 ^ i * low' = 2 * val 4294967296 (l.take i) + low ∧ w.grownBy wr (some g))
    (fun _ iv _ => n - (intOf iv).toNat)
  case atStart => exact ⟨0, low, l, Nat.zero_le _, rfl, rfl, hl, h, hd, rfl, by simp [val], World.grownBy.refl _ _⟩
  case round =>
    obtain ⟨i, low', lo, hi, rfl, rfl, hl', ho, hdo, hdr, hI, hgr⟩ := hrel
    by_cases hlt : i < n
    · obtain ⟨x, hx, hxm, hcx⟩ := ho.cell hlt
      have hx1 := hdo x hxm
      have hfz := ho.frozen i
      have HX := hide hx
      have HD := hide hdr
      have HI := hide hI
      clear hx hdr hI
      go_wp2
      go_roundw
      case rel =>
        have hx2 : l.getD i 0 = x := by rw [← getD_of_drop HD.out]; exact HX.out
        exact ⟨i + 1, x / 2147483648, _, by omega, by go_num, by go_num, by omega, ho.store i (x * 2 % 4294967296 + low') (by rw [u32_dbl _ _ hl']), hdo.set _ _ (by omega), by
          rw [drop_set_succ]; exact drop_succ_of HD.out, dbl_step rfl HI.out (by rw [ho.len]; omega) hx2, hgr.trans ⟨rfl, rfl, rfl, by simp [World.setCell], fun k _ hk => Below.heap_setCell _ _ _ _ (fun e => hk (by rw [e]))⟩⟩
      case measure => simp [intOf] <;> omega
    · obtain rfl : i = n := by omega
      have HD := hide hdr
      have HI := hide hI
      clear hdr hI
      go_wp2
      go_end0
      have hI := HI.out
      rw [show lo.take i = lo from List.take_of_length_le (Nat.le_of_eq ho.len), show l.take i = l from List.take_of_length_le (Nat.le_of_eq h.len)] at hI
      exact ⟨rfl, lo, ho, hdo, ⟨_, hI⟩, hgr⟩

set_option maxHeartbeats 400000 in
theorem size_c (A : Option Addr) (n c : Nat) (l : List Nat) (w : World) (B : Nat) (h : Sl w B .u32 A n c l) (hd : Digs 4294967296 l) (hn : n ≤ 1099511627776) :
    Calls Try.prog 128 #[.slice A n c] w fun e w' => e = .returned (.int .i64 (bitsN (val 4294967296 l) : Nat)) ∧ w = w' := by
  obtain ⟨X, hX⟩ : ∃ X, val 4294967296 l = X := ⟨_, rfl⟩
  have HX := hide hX
  rw [hX]
  clear hX
  have hcap := h.cap
  go_enter Try.func128, Try.ntmps128
  go_wp2_with fail
  refine (trim_n _ _ _ _ _ _ h hd).mono ?_
  rintro e w' ⟨m, hm, rfl, ta, rfl⟩
  have sa := h.take hm
  rw [HX.out] at ta
  obtain ⟨l', hl⟩ : ∃ l', l.take m = l' := ⟨_, rfl⟩
  rw [hl] at ta sa
  clear hl
  by_cases h0 : m = 0
  · subst h0
    go_wp2
    go_ret
    have := (ta.zero_iff (by omega)).1 sa.len
    exact ⟨ret_int (by rw [this]; rfl), rfl⟩
  · obtain ⟨m, rfl⟩ : ∃ j, m = j + 1 := ⟨m - 1, by omega⟩
    obtain ⟨b, o, x, rfl, hb, hx, hxm, hcx⟩ := sa.cell (i := m) (by omega)
    have hx1 := ta.dig x hxm
    have HB := hide (bitsN_val ta sa.len)
    have HXX := hide hx
    clear hx
    go_wp2
    go_loop [3, 4] (fun nv xv => ∃ (k y : Nat), xv = .int .u32 y ∧ nv = .int .i64 k ∧ y < 4294967296 ∧ k + bitsN y = bitsN X) (fun _ xv => (intOf xv).toNat)
    case atStart => exact ⟨32 * m, x, rfl, by go_num, hx1, by rw [HB.out, HXX.out]⟩
    case round =>
      obtain ⟨k, y, rfl, rfl, hy, hI⟩ := hrel
      have HI := hide hI
      have hb32 := (bitsN_le y 32).2 hy
      have hbX := (bitsN_le X (32 * (m + 1))).2 (by have := ta.lt; rw [sa.len] at this; rwa [Nat.pow_mul])
      have hk : k ≤ 32 * (m + 1) := by omega
      clear hI hbX hb32
      by_cases hy0 : 0 < y
      · have hh := bitsN_half hy0
        have HH := hide hh
        clear hh
        go_wp2
        go_round
        case rel => exact ⟨k + 1, y / 2, by go_num, by go_num, by omega, by have := HI.out; have := HH.out; omega⟩
        case measure => simp [intOf] <;> omega
      · obtain rfl : y = 0 := by omega
        go_wp2
        go_ret
        exact ⟨ret_int (by have := HI.out; rw [bitsN_zero] at this; exact congrArg _ this), rfl⟩
end Go.Proofs.Ytchhkokpjdkkiaa.Ex
