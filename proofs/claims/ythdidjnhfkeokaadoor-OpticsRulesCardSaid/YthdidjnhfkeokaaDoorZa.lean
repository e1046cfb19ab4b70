/- Words between spaces, and numbers in decimal digits, as lists of bytes. Plain Lean; no program. -/
import Derived.Test.YthdidjnhfkeokaaDoorQm
import Derived.Lib.SplitLaws
import Derived.Lib.Join
import Derived.Lib.ItoaNum
namespace Go.Proofs.YthdidjnhfkeokaaDoor
open Go.RowKit

/-! ### Words -/
/-- The parts of a list of bytes between bytes c. -/
def partsL (c : UInt8) : List UInt8 → List (List UInt8)
  | [] => [[]]
  | b :: l => if b = c then [] :: partsL c l else match partsL c l with
    | [] => [[b]]
    | x :: r => (b :: x) :: r
def wordsL (l : List UInt8) : List (List UInt8) := partsL 32 l
theorem partsL_ne (c : UInt8) (l : List UInt8) : partsL c l ≠ [] := by
  cases l with
  | nil => simp [partsL]
  | cons b l => rw [partsL]; split
                · simp
                · split <;> simp
theorem partsL_no {c : UInt8} {x : List UInt8} (h : c ∉ x) : partsL c x = [x] := by
  induction x with
  | nil => rfl
  | cons b x ih =>
    simp only [List.mem_cons, not_or] at h
    rw [partsL, if_neg (fun e => h.1 e.symm), ih h.2]
theorem partsL_app {c : UInt8} {x : List UInt8} (h : c ∉ x) (y : List UInt8) : partsL c (x ++ c :: y) = x :: partsL c y := by
  induction x with
  | nil => simp [partsL]
  | cons b x ih =>
    simp only [List.mem_cons, not_or] at h
    rw [List.cons_append, partsL, if_neg (fun e => h.1 e.symm), ih h.2]
theorem decomp (c : UInt8) (l : List UInt8) : c ∉ l ∨ ∃ x y, l = x ++ c :: y ∧ c ∉ x := by
  induction l with
  | nil => left; simp
  | cons b l ih =>
    by_cases e : b = c
    · subst e; exact .inr ⟨[], l, rfl, by simp⟩
    · rcases ih with h | ⟨x, y, h1, h2⟩
      · left; simp only [List.mem_cons, not_or]; exact ⟨fun h' => e h'.symm, h⟩
      · exact .inr ⟨b :: x, y, by rw [h1]; rfl, by simp only [List.mem_cons, not_or]; exact ⟨fun h' => e h'.symm, h2⟩⟩
theorem parts_mem {c : UInt8} : ∀ (n : Nat) (l : List UInt8), l.length ≤ n → ∀ x ∈ partsL c l, c ∉ x
  | 0, l, h => by
    have : l = [] := List.eq_nil_of_length_eq_zero (by omega)
    subst this; simp [partsL]
  | n + 1, l, h => by
    rcases decomp c l with hn | ⟨x, y, rfl, hx⟩
    · rw [partsL_no hn]; simpa using hn
    · rw [partsL_app hx]
      intro z hz
      rcases List.mem_cons.1 hz with rfl | hz
      · exact hx
      · exact parts_mem n y (by simp at h; omega) z hz
theorem wordsL_mem {l x : List UInt8} (h : x ∈ wordsL l) : (32 : UInt8) ∉ x := parts_mem l.length l (Nat.le_refl _) x h
theorem join_parts (c : UInt8) : ∀ (n : Nat) (l : List UInt8), l.length ≤ n → Lib.join (partsL c l) [c] = l
  | 0, l, h => by
    have : l = [] := List.eq_nil_of_length_eq_zero (by omega)
    subst this; rfl
  | n + 1, l, h => by
    rcases decomp c l with hn | ⟨x, y, rfl, hx⟩
    · rw [partsL_no hn, Lib.join_one]
    · have ih := join_parts c n y (by simp at h; omega)
      rw [partsL_app hx, Lib.join_cons]
      cases hp : partsL c y with
      | nil => exact absurd hp (partsL_ne c y)
      | cons z r =>
        rw [hp, Lib.join_cons] at ih
        simp only [Lib.joinTail, List.map_cons, List.flatten_cons] at ih ⊢
        rw [← ih]; simp
theorem words_join : ∀ (ws : List (List UInt8)), ws ≠ [] → (∀ x ∈ ws, (32 : UInt8) ∉ x) → wordsL (Lib.join ws [32]) = ws
  | [], h, _ => absurd rfl h
  | [x], _, h => by rw [Lib.join_one]; exact partsL_no (h x (by simp))
  | x :: y :: r, _, h => by
    have ih := words_join (y :: r) (by simp) (fun z hz => h z (by simp [hz]))
    rw [Lib.join_cons] at ih ⊢
    simp only [Lib.joinTail, List.map_cons, List.flatten_cons]
    rw [show x ++ ([32] ++ y ++ (List.map (fun x => [32] ++ x) r).flatten) = x ++ 32 :: (y ++ Lib.joinTail [32] r) by simp [Lib.joinTail]]
    unfold wordsL at ih ⊢
    rw [partsL_app (h x (by simp)), ih]
theorem join_words (l : List UInt8) : Lib.join (wordsL l) [32] = l := join_parts 32 l.length l (Nat.le_refl _)
theorem index_no {c : UInt8} {x : List UInt8} (h : c ∉ x) : Lib.index x [c] = -1 := by
  induction x with
  | nil => simp [Lib.index]
  | cons b x ih =>
    simp only [List.mem_cons, not_or] at h
    rw [Lib.index, ih h.2]; simp [List.isPrefixOf, h.1]
theorem index_app {c : UInt8} {x : List UInt8} (h : c ∉ x) (y : List UInt8) : Lib.index (x ++ c :: y) [c] = x.length := by
  induction x with
  | nil => simp [Lib.index, List.isPrefixOf]
  | cons b x ih =>
    simp only [List.mem_cons, not_or] at h
    rw [List.cons_append, Lib.index, ih h.2]
    simp [List.isPrefixOf, h.1]
theorem splitK_parts (c : UInt8) : ∀ (k : Nat) (l : List UInt8), l.count c = k → Lib.splitK [c] 0 k l = partsL c l
  | 0, l, h => by
    have hn : c ∉ l := List.count_eq_zero.1 h
    rw [partsL_no hn]; rfl
  | k + 1, l, h => by
    rcases decomp c l with hn | ⟨x, y, rfl, hx⟩
    · rw [List.count_eq_zero.2 hn] at h; omega
    · rw [List.count_append, List.count_eq_zero.2 hx, List.count_cons_self] at h
      rw [Lib.splitK, index_app hx, partsL_app hx, if_neg (by simp)]
      have ih := splitK_parts c k y (by omega)
      simp only [Int.toNat_natCast, Nat.add_zero, List.length_singleton]
      rw [List.take_left, show (x ++ c :: y).drop (x.length + 1) = y by rw [← List.drop_drop, List.drop_left]; rfl, ih]

/-! ### Numbers -/
def isDig (b : UInt8) : Bool := decide (48 ≤ b.toNat ∧ b.toNat ≤ 57)
def dec (l : List UInt8) : Nat := l.foldl (fun a b => 10 * a + (b.toNat - 48)) 0
/-- A number without zeros in front. -/
def okNum (l : List UInt8) : Bool := !l.isEmpty && l.all isDig && !(decide (1 < l.length) && decide (l.head? = some 48))
theorem dec_snoc (l : List UInt8) (b : UInt8) : dec (l ++ [b]) = 10 * dec l + (b.toNat - 48) := by unfold dec; rw [List.foldl_append]; rfl
theorem decDigits_ne (n : Nat) : Lib.decDigits n ≠ [] := by
  rw [Lib.decDigits]; split <;> simp
theorem decDigits_step {m d : Nat} (hm : 0 < m) (hd : d < 10) : Lib.decDigits (10 * m + d) = Lib.decDigits m ++ [UInt8.ofNat (48 + d)] := by
  rw [Lib.decDigits, dif_neg (by omega), show (10 * m + d) / 10 = m by omega, show (10 * m + d) % 10 = d by omega]
theorem dig_toNat {d : Nat} (hd : d < 10) : (UInt8.ofNat (48 + d)).toNat = 48 + d := by
  simp; omega
theorem head_app {α : Type} {l m : List α} (h : l ≠ []) : (l ++ m).head? = l.head? := by
  cases l with
  | nil => exact absurd rfl h
  | cons a l => rfl
theorem snoc_ind {α : Type} {M : List α → Prop} (h0 : M []) (h1 : ∀ l b, M l → M (l ++ [b])) (l : List α) : M l := by
  have key : ∀ r : List α, M r.reverse := fun r => by
    induction r with
    | nil => exact h0
    | cons b r ih => rw [List.reverse_cons]; exact h1 _ b ih
  have := key l.reverse
  rwa [List.reverse_reverse] at this
theorem decDigits_all (n : Nat) : (Lib.decDigits n).all isDig = true ∧ dec (Lib.decDigits n) = n ∧ (0 < n → (Lib.decDigits n).head? ≠ some 48) ∧ (n < 10 → (Lib.decDigits n).length = 1) := by
  induction n using Nat.strongRecOn with
  | _ n ih =>
    rw [Lib.decDigits]
    split
    · rename_i h
      have hd := dig_toNat h
      refine ⟨by simp only [List.all_cons, List.all_nil, Bool.and_true, isDig, decide_eq_true_eq, hd]; omega, by simp only [dec, List.foldl_cons, List.foldl_nil, hd]; omega, fun hp he => ?_, fun _ => rfl⟩
      simp only [List.head?_cons, Option.some.injEq] at he
      have := congrArg UInt8.toNat he
      rw [hd] at this
      simp at this; omega
    · rename_i h
      obtain ⟨h1, h2, h3, _⟩ := ih (n / 10) (by omega)
      have hd := dig_toNat (Nat.mod_lt n (show 0 < 10 by omega))
      refine ⟨?_, ?_, fun _ => ?_, fun h' => absurd h' h⟩
      · rw [List.all_append, h1]; simp only [List.all_cons, List.all_nil, Bool.and_true, Bool.true_and, isDig, decide_eq_true_eq, hd]; omega
      · rw [dec_snoc, h2, hd]; omega
      · rw [head_app (decDigits_ne _)]; exact h3 (by omega)
theorem okNum_digits (n : Nat) : okNum (Lib.decDigits n) = true := by
  obtain ⟨h1, _, h3, h4⟩ := decDigits_all n
  unfold okNum
  rw [h1]
  have h0 : (Lib.decDigits n).isEmpty = false := by
    cases h : Lib.decDigits n with
    | nil => exact absurd h (decDigits_ne n)
    | cons _ _ => rfl
  rw [h0]
  by_cases hn : n < 10
  · simp [h4 hn]
  · simp [h3 (by omega)]
theorem dec_pos : ∀ (l : List UInt8), l ≠ [] → l.all isDig = true → l.head? ≠ some 48 → 0 < dec l := by
  refine snoc_ind (fun h => absurd rfl h) fun l b ih => ?_
  · intro _ hd hh
    rw [List.all_append] at hd
    simp only [Bool.and_eq_true] at hd
    rw [dec_snoc]
    by_cases h0 : l = []
    · subst h0
      simp at hh
      simp only [List.all_cons, List.all_nil, Bool.and_true, isDig, decide_eq_true_eq] at hd
      have : b.toNat ≠ 48 := fun e => hh (UInt8.toNat_inj.1 (by rw [e]; rfl))
      simp [dec]; omega
    · have := ih h0 hd.1 (by rw [head_app h0] at hh; exact hh)
      omega
theorem digits_dec : ∀ (l : List UInt8), okNum l = true → Lib.decDigits (dec l) = l := by
  refine snoc_ind (fun h => by simp [okNum] at h) fun l b ih => ?_
  · intro h
    simp only [okNum, Bool.and_eq_true, Bool.not_eq_true', List.all_append] at h
    obtain ⟨⟨_, hl, hb⟩, hz⟩ := h
    simp only [List.all_cons, List.all_nil, Bool.and_true, isDig, decide_eq_true_eq] at hb
    have hbe : UInt8.ofNat (48 + (b.toNat - 48)) = b := by
      apply UInt8.toNat_inj.1; rw [dig_toNat (by omega)]; omega
    rw [dec_snoc]
    by_cases h0 : l = []
    · subst h0
      rw [show 10 * dec [] + (b.toNat - 48) = b.toNat - 48 by simp [dec], Lib.decDigits, dif_pos (by omega), hbe]; rfl
    · have hh : l.head? ≠ some 48 := by
        intro e
        have hlen : 1 < (l ++ [b]).length := by
          have := List.length_pos_iff.2 h0
          simp; omega
        rw [head_app h0, e] at hz
        simp [h0] at hz
      have hok : okNum l = true := by
        unfold okNum; rw [hl]
        have : l.isEmpty = false := by simpa using h0
        rw [this]; simp [hh]
      rw [decDigits_step (dec_pos l h0 hl hh) (by omega), ih hok, hbe]
end Go.Proofs.YthdidjnhfkeokaaDoor
