/- Rules' lines: the forms of rules, what a line says, what a script says. Plain Lean; no program. -/
import Derived.Test.YthdidjnhfkeokaaDoorZf
import Derived.Test.YthdidjnhfkeokaaDoorVa
import Derived.Lib.IndexMore
namespace Go.Proofs.YthdidjnhfkeokaaDoor
open Go.RowKit

/-! ### The forms -/
def fmK (j : Nat) : Int := if j = 0 then 1 else if j = 1 then 2 else if j = 2 then 3 else if j = 3 then 3 else if j = 4 then 4 else if j = 5 then 5 else if j = 6 then 6 else 7
def fmB (j : Nat) : Int := if j = 3 then 1 else 0
def fmW (j : Nat) : List UInt8 :=
  if j = 0 then [108, 111, 115, 115] else if j = 1 then [110, 111, 105, 115, 101] else if j = 2 then [108, 97, 116, 101] else if j = 3 then [101, 97, 114, 108, 121]
  else if j = 4 then [114, 101, 115, 101, 110, 100] else if j = 5 then [115, 112, 108, 105, 116] else if j = 6 then [115, 116, 97, 114, 118, 101] else [98, 108, 105, 110, 100]
def fmF (j : Nat) : List Nat := if j ≤ 3 then [3] else if j = 4 then [1, 2, 3] else if j = 5 then [1, 2] else if j = 6 then [1, 2, 3] else [1, 2, 3, 4]
def ruN (r : Ru) (c : Nat) : Int := if c = 0 then r.k else if c = 1 then r.fr else if c = 2 then r.to else if c = 3 then r.a else r.b
def ruOf (g : Nat → Int) : Ru := ⟨g 0, g 1, g 2, g 3, g 4⟩
theorem ruOf_ruN (r : Ru) : ruOf (ruN r) = r := rfl
/-- A rule's form. -/
def fmOf (r : Ru) : Nat := if r.k = 1 then 0 else if r.k = 2 then 1 else if r.k = 3 then (if r.b = 1 then 3 else 2) else if r.k = 4 then 4 else if r.k = 5 then 5 else if r.k = 6 then 6 else 7
theorem fmOf_lt (r : Ru) : fmOf r < 8 := by unfold fmOf; (repeat' split) <;> omega
def lineW (r : Ru) : List (List UInt8) := fmW (fmOf r) :: (fmF (fmOf r)).map fun c => Lib.decDigits (ruN r c).toNat
/-- A rule's line. -/
def lineL (r : Ru) : List UInt8 := Lib.join (lineW r) [32]
theorem cases8 {j : Nat} (h : j < 8) : j = 0 ∨ j = 1 ∨ j = 2 ∨ j = 3 ∨ j = 4 ∨ j = 5 ∨ j = 6 ∨ j = 7 := by omega
theorem fmF_ix : ∀ j, j < 8 → ∀ i, i < (fmF j).length → (fmF j).idxOf ((fmF j).getD i 0) = i ∧ (fmF j).getD i 0 ≠ 0 ∧ (fmF j).getD i 0 ≤ 4 := by decide
theorem fmW_inj {i j : Nat} (hi : i < 8) (hj : j < 8) (h : fmW i = fmW j) : i = j := by
  rcases cases8 hi with rfl | rfl | rfl | rfl | rfl | rfl | rfl | rfl <;> rcases cases8 hj with rfl | rfl | rfl | rfl | rfl | rfl | rfl | rfl <;> first | rfl | (exact absurd h (by decide))
theorem fmW_no {j : Nat} (hj : j < 8) (b : UInt8) (hb : b = 32 ∨ b = 10) : b ∉ fmW j := by
  rcases hb with rfl | rfl <;> rcases cases8 hj with rfl | rfl | rfl | rfl | rfl | rfl | rfl | rfl <;> decide
/-- What a valid rule's numbers are. -/
theorem okRu_form {r : Ru} (h : okRu r = true) : fmK (fmOf r) = r.k ∧ (∀ c ∈ fmF (fmOf r), 0 ≤ ruN r c ∧ ruN r c ≤ 4095) ∧ (∀ c, 1 ≤ c → c ≤ 4 → c ∉ fmF (fmOf r) → ruN r c = if c = 4 then fmB (fmOf r) else 0) := by
  obtain ⟨k, fr, td, a, b⟩ := r
  have hk := okRu_kind h
  simp only at hk
  have hc : k = 1 ∨ k = 2 ∨ k = 3 ∨ k = 4 ∨ k = 5 ∨ k = 6 ∨ k = 7 := by omega
  have key : ∀ (P : Nat → Prop), P 1 → P 2 → P 3 → P 4 → ∀ c, 1 ≤ c → c ≤ 4 → P c := fun P h1 h2 h3 h4 c hc1 hc2 => by
    have : c = 1 ∨ c = 2 ∨ c = 3 ∨ c = 4 := by omega
    rcases this with rfl | rfl | rfl | rfl <;> assumption
  rcases hc with rfl | rfl | rfl | rfl | rfl | rfl | rfl
  · simp [okRu] at h
    refine ⟨rfl, ?_, ?_⟩
    · simp [fmOf, fmF, ruN]; omega
    · refine key _ ?_ ?_ ?_ ?_ <;> simp [fmOf, fmF, ruN, fmB] <;> omega
  · simp [okRu] at h
    refine ⟨rfl, ?_, ?_⟩
    · simp [fmOf, fmF, ruN]; omega
    · refine key _ ?_ ?_ ?_ ?_ <;> simp [fmOf, fmF, ruN, fmB] <;> omega
  · simp [okRu] at h
    obtain ⟨h1, h2, h3 | h3, h4, h5⟩ := h
    · subst h3
      refine ⟨rfl, ?_, ?_⟩
      · simp [fmOf, fmF, ruN]; omega
      · refine key _ ?_ ?_ ?_ ?_ <;> simp [fmOf, fmF, ruN, fmB] <;> omega
    · subst h3
      refine ⟨rfl, ?_, ?_⟩
      · simp [fmOf, fmF, ruN]; omega
      · refine key _ ?_ ?_ ?_ ?_ <;> simp [fmOf, fmF, ruN, fmB] <;> omega
  · simp [okRu, okSpan] at h
    refine ⟨rfl, ?_, ?_⟩
    · simp [fmOf, fmF, ruN]; omega
    · refine key _ ?_ ?_ ?_ ?_ <;> simp [fmOf, fmF, ruN, fmB] <;> omega
  · simp [okRu, okSpan] at h
    refine ⟨rfl, ?_, ?_⟩
    · simp [fmOf, fmF, ruN]; omega
    · refine key _ ?_ ?_ ?_ ?_ <;> simp [fmOf, fmF, ruN, fmB] <;> omega
  · simp [okRu, okSpan] at h
    refine ⟨rfl, ?_, ?_⟩
    · simp [fmOf, fmF, ruN]; omega
    · refine key _ ?_ ?_ ?_ ?_ <;> simp [fmOf, fmF, ruN, fmB] <;> omega
  · simp [okRu, okSpan] at h
    refine ⟨rfl, ?_, ?_⟩
    · simp [fmOf, fmF, ruN]; omega
    · refine key _ ?_ ?_ ?_ ?_ <;> simp [fmOf, fmF, ruN, fmB] <;> omega
theorem digits_no {b : UInt8} (hb : b = 32 ∨ b = 10) (n : Nat) : b ∉ Lib.decDigits n := fun h => by
  have := List.all_eq_true.1 (decDigits_all n).1 b h
  rcases hb with rfl | rfl <;> simp [isDig] at this
theorem lineW_no {b : UInt8} (hb : b = 32 ∨ b = 10) (r : Ru) : ∀ x ∈ lineW r, b ∉ x := by
  intro x hx
  unfold lineW at hx
  rcases List.mem_cons.1 hx with rfl | hx
  · exact fmW_no (fmOf_lt r) b hb
  · obtain ⟨c, _, rfl⟩ := List.mem_map.1 hx
    exact digits_no hb _
theorem words_line (r : Ru) : wordsL (lineL r) = lineW r := words_join _ (by simp [lineW]) (lineW_no (.inl rfl) r)
theorem join_no {b : UInt8} (hb : b ≠ 32) : ∀ (xs : List (List UInt8)), (∀ x ∈ xs, b ∉ x) → b ∉ Lib.join xs [32]
  | [], _ => by simp [Lib.join]
  | [x], h => by rw [Lib.join_one]; exact h x (by simp)
  | x :: y :: r, h => by
    have ih := join_no hb (y :: r) (fun z hz => h z (by simp [hz]))
    rw [Lib.join_cons] at ih ⊢
    simp only [Lib.joinTail, List.map_cons, List.flatten_cons, List.mem_append, not_or, List.mem_singleton] at ih ⊢
    exact ⟨h x (by simp), ⟨hb, ih.1⟩, ih.2⟩
theorem line_no10 (r : Ru) : (10 : UInt8) ∉ lineL r := join_no (by decide) _ (lineW_no (.inr rfl) r)

/-! ### What a line's words say -/
/-- A form's numbers, behind i of them, read by V. -/
def fmR (V : List UInt8 → Int) (ws : List (List UInt8)) (j i : Nat) : Nat → Int := fun c =>
  if c = 0 then fmK j else if c ∈ (fmF j).take i then V (ws.getD (1 + (fmF j).idxOf c) []) else if c = 4 then fmB j else 0
theorem fmR_line {V : List UInt8 → Int} (hV : ∀ n : Nat, n ≤ 4095 → V (Lib.decDigits n) = n) {r : Ru} (h : okRu r = true) (c : Nat) (hc : c ≤ 4) : fmR V (lineW r) (fmOf r) (fmF (fmOf r)).length c = ruN r c := by
  obtain ⟨h1, h2, h3⟩ := okRu_form h
  unfold fmR
  rw [List.take_length]
  by_cases h0 : c = 0
  · subst h0; rw [if_pos rfl, h1]; rfl
  · rw [if_neg h0]
    by_cases hm : c ∈ fmF (fmOf r)
    · rw [if_pos hm]
      have hb := h2 c hm
      have hi : (fmF (fmOf r)).idxOf c < (fmF (fmOf r)).length := List.idxOf_lt_length_of_mem hm
      have he : (lineW r)[1 + (fmF (fmOf r)).idxOf c]? = some (Lib.decDigits (ruN r c).toNat) := by
        unfold lineW
        rw [Nat.add_comm 1, List.getElem?_cons_succ, List.getElem?_map, List.getElem?_eq_getElem hi, List.getElem_idxOf hi]; rfl
      rw [List.getD_eq_getElem?_getD, he, Option.getD_some, hV _ (by omega)]; omega
    · rw [if_neg hm, h3 c (by omega) hc hm]
theorem ruOf_congr {f g : Nat → Int} (h : ∀ c, c ≤ 4 → f c = g c) : ruOf f = ruOf g := by
  unfold ruOf; rw [h 0 (by omega), h 1 (by omega), h 2 (by omega), h 3 (by omega), h 4 (by omega)]
/-- The rule that a line says, read by V, if its form is j. -/
def fmRu (V : List UInt8 → Int) (l : List UInt8) (j : Nat) : Ru := ruOf (fmR V (wordsL l) j (fmF j).length)
theorem fmRu_line {V : List UInt8 → Int} (hV : ∀ n : Nat, n ≤ 4095 → V (Lib.decDigits n) = n) {r : Ru} (h : okRu r = true) : fmRu V (lineL r) (fmOf r) = r := by
  unfold fmRu
  rw [words_line, ruOf_congr (fun c hc => fmR_line hV h c hc), ruOf_ruN]
theorem fmOf_ru (V : List UInt8 → Int) (l : List UInt8) {j : Nat} (hj : j < 8) : fmOf (fmRu V l j) = j := by
  rcases cases8 hj with rfl | rfl | rfl | rfl | rfl | rfl | rfl | rfl <;> simp [fmRu, fmR, ruOf, fmOf, fmK, fmF, fmB]
theorem digits4 {n : Nat} (h : n ≤ 4095) : (Lib.decDigits n).length ≤ 4 := by
  rw [Lib.decDigits]; split
  · simp
  · rw [List.length_append, Lib.decDigits]; split
    · simp
    · rw [List.length_append, Lib.decDigits]; split
      · simp
      · rw [List.length_append, Lib.decDigits]; split
        · simp
        · omega
theorem small_dig {n : Nat} (h : n ≤ 4095) : smallOk (Lib.decDigits n) = true ∧ smallV (Lib.decDigits n) = n := by
  have h1 : smallOk (Lib.decDigits n) = true := by unfold smallOk; rw [decide_eq_true (digits4 h), okNum_digits]; rfl
  exact ⟨h1, by unfold smallV; rw [if_pos h1]; exact (decDigits_all n).2.1⟩
theorem num_dig {n : Nat} (h : n ≤ 4095) : numV (Lib.decDigits n) = n := by
  have h1 : numOk (Lib.decDigits n) = true := by
    unfold numOk; rw [decide_eq_true (Nat.le_trans (digits4 h) (by omega)), okNum_digits]; rfl
  unfold numV; rw [if_pos h1, (decDigits_all n).2.1]
def sV (l : List UInt8) : Int := (smallV l : Nat)
theorem sV_dig (n : Nat) (h : n ≤ 4095) : sV (Lib.decDigits n) = n := by unfold sV; rw [(small_dig h).2]
theorem nV_dig (n : Nat) (h : n ≤ 4095) : numV (Lib.decDigits n) = n := num_dig h
theorem line_inj {r q : Ru} (hr : okRu r = true) (hq : okRu q = true) (h : lineL r = lineL q) : r = q := by
  have hw : lineW r = lineW q := by rw [← words_line r, h, words_line]
  have h0 : fmOf r = fmOf q := fmW_inj (fmOf_lt r) (fmOf_lt q) (List.cons.inj hw).1
  rw [← fmRu_line sV_dig hr, ← fmRu_line sV_dig hq, h, h0]
/-- The rule whose line this is. -/
def ruleAt (l : List UInt8) : Option Ru := (List.range 8).findSome? fun j => if okRu (fmRu sV l j) = true ∧ lineL (fmRu sV l j) = l then some (fmRu sV l j) else none
theorem ruleAt_ok {l : List UInt8} {r : Ru} (h : ruleAt l = some r) : okRu r = true ∧ lineL r = l := by
  obtain ⟨j, _, hj⟩ := List.exists_of_findSome?_eq_some h
  split at hj
  · rename_i hc; rw [Option.some.inj hj] at hc; exact hc
  · cases hj
theorem ruleAt_some {l : List UInt8} {r : Ru} (h : okRu r = true) (e : lineL r = l) : ruleAt l = some r := by
  cases hx : ruleAt l with
  | some q =>
    obtain ⟨h1, h2⟩ := ruleAt_ok hx
    rw [line_inj h1 h (h2.trans e.symm)]
  | none =>
    have := List.findSome?_eq_none_iff.1 hx (fmOf r) (List.mem_range.2 (fmOf_lt r))
    rw [← e, fmRu_line sV_dig h, if_pos ⟨h, rfl⟩] at this
    cases this
theorem ruleAt_none {l : List UInt8} (h : ∀ g, okRu g = true → lineL g ≠ l) : ruleAt l = none := by
  cases hx : ruleAt l with
  | none => rfl
  | some q => exact absurd (ruleAt_ok hx).2 (h q (ruleAt_ok hx).1)

/-! ### What read returns -/
def SRd (l : List UInt8) (r : Ru) (ok : Bool) : Prop := if ok then ruleAt l = some r else ruleAt l = none
section
variable {l : List UInt8} {g : Ru}
theorem line_parts (e : lineL g = l) : (wordsL l)[0]? = some (fmW (fmOf g)) ∧ (wordsL l).length = 1 + (fmF (fmOf g)).length ∧ ∀ i c, (fmF (fmOf g))[i]? = some c → (wordsL l)[1 + i]? = some (Lib.decDigits (ruN g c).toNat) := by
  rw [← e, words_line]
  refine ⟨rfl, by simp [lineW]; omega, fun i c hc => ?_⟩
  unfold lineW
  rw [Nat.add_comm 1, List.getElem?_cons_succ, List.getElem?_map, hc]; rfl
theorem SRd.noForm {w0 : List UInt8} {r : Ru} (h0 : (wordsL l)[0]? = some w0) (h : ∀ j, j < 8 → ¬ (fmW j = w0 ∧ (wordsL l).length = 1 + (fmF j).length)) : SRd l r false := ruleAt_none fun g hg e => by
  obtain ⟨h1, h2, _⟩ := line_parts e
  rw [h0] at h1
  exact h (fmOf g) (fmOf_lt g) ⟨(Option.some.inj h1).symm, h2⟩
theorem form_of {j : Nat} (hj : j < 8) (h0 : (wordsL l)[0]? = some (fmW j)) (e : lineL g = l) : fmOf g = j := by
  obtain ⟨h1, _, _⟩ := line_parts e
  rw [h0] at h1
  exact (fmW_inj hj (fmOf_lt g) (Option.some.inj h1)).symm
theorem SRd.bad {j i : Nat} {x : List UInt8} {r : Ru} (hj : j < 8) (h0 : (wordsL l)[0]? = some (fmW j)) (hi : i < (fmF j).length) (hx : (wordsL l)[1 + i]? = some x) (h : smallOk x = false) : SRd l r false := ruleAt_none fun g hg e => by
  obtain rfl := form_of hj h0 e
  obtain ⟨_, _, h3⟩ := line_parts e
  have h4 := h3 i _ (List.getElem?_eq_getElem hi)
  rw [hx] at h4
  have hb := (okRu_form hg).2.1 _ (List.getElem_mem hi)
  rw [Option.some.inj h4, (small_dig (by omega)).1] at h
  cases h
theorem SRd.whole {j : Nat} {r : Ru} (hj : j < 8) (h0 : (wordsL l)[0]? = some (fmW j)) (hl : (wordsL l).length = 1 + (fmF j).length) (hn : ∀ i x, i < (fmF j).length → (wordsL l)[1 + i]? = some x → smallOk x = true) (hr : r = fmRu sV l j) : SRd l r (okRu r) := by
  cases ho : okRu r
  · refine ruleAt_none fun g hg e => ?_
    obtain rfl := form_of hj h0 e
    rw [hr, ← e, fmRu_line sV_dig hg, hg] at ho
    cases ho
  · refine ruleAt_some ho ?_
    have hf : fmOf r = j := by rw [hr]; exact fmOf_ru sV l hj
    have hw : lineW r = wordsL l := by
      refine List.ext_getElem? fun k => ?_
      by_cases hk0 : k = 0
      · subst hk0; rw [h0]; unfold lineW; rw [hf]; rfl
      · obtain ⟨i, rfl⟩ : ∃ i, k = 1 + i := ⟨k - 1, by omega⟩
        by_cases hi : i < (fmF j).length
        · have hxx : ∃ x, (wordsL l)[1 + i]? = some x := ⟨_, List.getElem?_eq_getElem (by omega)⟩
          obtain ⟨x, hx⟩ := hxx
          have hs := hn i _ hi hx
          refine Eq.trans ?_ hx.symm
          unfold lineW
          rw [hf, show 1 + i = i + 1 from Nat.add_comm 1 i, List.getElem?_cons_succ, List.getElem?_map, List.getElem?_eq_getElem hi]
          simp only [Option.map_some, Option.some.injEq]
          have hv : ruN r ((fmF j)[i]) = sV x := by
            rw [hr]
            have hid := fmF_ix j hj i hi
            simp only [List.getD_eq_getElem?_getD, List.getElem?_eq_getElem hi, Option.getD_some] at hid
            have hm : (fmF j)[i] ∈ (fmF j).take (fmF j).length := by rw [List.take_length]; exact List.getElem_mem hi
            have hrn : ∀ c, c ≤ 4 → ruN (fmRu sV l j) c = fmR sV (wordsL l) j (fmF j).length c := fun c hc => by
              have : c = 0 ∨ c = 1 ∨ c = 2 ∨ c = 3 ∨ c = 4 := by omega
              rcases this with rfl | rfl | rfl | rfl | rfl <;> rfl
            rw [hrn _ hid.2.2]
            unfold fmR
            rw [if_neg hid.2.1, if_pos hm, hid.1, List.getD_eq_getElem?_getD, hx, Option.getD_some]
          rw [hv]
          unfold sV smallV
          rw [if_pos hs, Int.toNat_natCast]
          unfold smallOk at hs
          simp only [Bool.and_eq_true] at hs
          rw [digits_dec _ hs.2]
        · rw [List.getElem?_eq_none (by simp [lineW, hf]; omega), List.getElem?_eq_none (by omega)]
    unfold lineL
    rw [hw, join_words]
/-- What the reference's read returns: the rule, if there is one. -/
def SRr (l : List UInt8) (r : Ru) : Prop := ∀ g, okRu g = true → lineL g = l → r = g
theorem SRr.noForm {w0 : List UInt8} {r : Ru} (h0 : (wordsL l)[0]? = some w0) (h : ∀ j, j < 8 → fmW j ≠ w0) : SRr l r := fun g hg e => by
  obtain ⟨h1, _, _⟩ := line_parts e
  rw [h0] at h1
  exact absurd (Option.some.inj h1).symm (h (fmOf g) (fmOf_lt g))
theorem SRr.form {j : Nat} {r : Ru} (hj : j < 8) (h0 : (wordsL l)[0]? = some (fmW j)) (hr : r = fmRu numV l j) : SRr l r := fun g hg e => by
  obtain rfl := form_of hj h0 e
  rw [hr, ← e, fmRu_line nV_dig hg]
/-- Which of a line's two outcomes holds, by the reference's test. -/
theorem SRr.yes {r : Ru} (ho : okRu r = true) (e : lineL r = l) : ruleAt l = some r := ruleAt_some ho e
theorem SRr.no {r : Ru} (h : SRr l r) (hb : okRu r = false ∨ lineL r ≠ l) : ruleAt l = none := ruleAt_none fun g hg e => by
  obtain rfl := h g hg e
  rcases hb with hb | hb
  · rw [hg] at hb; cases hb
  · exact hb e
end

/-! ### What Rules returns -/
theorem cut_no {l : List UInt8} (h : (10 : UInt8) ∉ l) : Lib.cut l [10] = (l, [], false) := by unfold Lib.cut; rw [index_no h, if_neg (by omega)]
theorem cut_app {x : List UInt8} (h : (10 : UInt8) ∉ x) (y : List UInt8) : Lib.cut (x ++ 10 :: y) [10] = (x, y, true) := by
  unfold Lib.cut; rw [index_app h, if_pos (by omega), Int.toNat_natCast, List.take_left]
  rw [show (x ++ 10 :: y).drop (x.length + [(10 : UInt8)].length) = y by rw [List.length_singleton, ← List.drop_drop, List.drop_left]; rfl]
/-- What Rules returns from a list of rules and a rest of the text on; k rules more may come. -/
def rulesG : Nat → List Ru → List UInt8 → List Ru × Int × Int
  | 0, out, l => if l = [] then (out, 0, 0) else ([], (out.length : Int) + 1, 5)
  | k + 1, out, l => if l = [] then (out, 0, 0) else
    if (Lib.cut l [10]).2.2 = false then ([], (out.length : Int) + 1, 6) else
    match ruleAt (Lib.cut l [10]).1 with
    | none => ([], (out.length : Int) + 1, 6)
    | some r => if isSh r = true ∧ out.any isSh = true then ([], (out.length : Int) + 1, 10) else rulesG k (out ++ [r]) (Lib.cut l [10]).2.1
section
variable {k : Nat} {out : List Ru} {l : List UInt8} {r : Ru}
theorem rulesG_nil : rulesG k out [] = (out, 0, 0) := by cases k <;> simp [rulesG]
theorem rulesG_many (h : l ≠ []) : rulesG 0 out l = ([], (out.length : Int) + 1, 5) := by rw [rulesG, if_neg h]
theorem rulesG_form (h : l ≠ []) (hb : (Lib.cut l [10]).2.2 = false ∨ ruleAt (Lib.cut l [10]).1 = none) : rulesG (k + 1) out l = ([], (out.length : Int) + 1, 6) := by
  rw [rulesG, if_neg h]
  rcases hb with hb | hb
  · rw [if_pos hb]
  · rw [hb]; split <;> rfl
theorem rulesG_have (h : l ≠ []) (he : (Lib.cut l [10]).2.2 = true) (hr : ruleAt (Lib.cut l [10]).1 = some r) (h3 : isSh r = true) (ho : out.any isSh = true) : rulesG (k + 1) out l = ([], (out.length : Int) + 1, 10) := by
  rw [rulesG, if_neg h, he, hr]; simp [h3, ho]
theorem rulesG_step (h : l ≠ []) (he : (Lib.cut l [10]).2.2 = true) (hr : ruleAt (Lib.cut l [10]).1 = some r) (h3 : isSh r = false ∨ out.any isSh = false) : rulesG (k + 1) out l = rulesG k (out ++ [r]) (Lib.cut l [10]).2.1 := by
  rw [rulesG, if_neg h, he, hr]
  rcases h3 with h3 | h3 <;> simp [h3]
end
def scriptL (L : List Ru) : List UInt8 := L.flatMap fun r => lineL r ++ [10]
theorem scriptL_snoc (L : List Ru) (r : Ru) : scriptL (L ++ [r]) = scriptL L ++ (lineL r ++ [10]) := by unfold scriptL; rw [List.flatMap_append]; simp
theorem rules_script : ∀ (L : List Ru) (k : Nat) (out : List Ru), L.length ≤ k → L.all okRu = true → shifts (out ++ L) ≤ 1 → rulesG k out (scriptL L) = (out ++ L, 0, 0)
  | [], k, out, _, _, _ => by rw [show scriptL [] = [] from rfl, rulesG_nil, List.append_nil]
  | r :: L, 0, out, h, _, _ => by simp at h
  | r :: L, k + 1, out, h, ha, hs => by
    simp only [List.all_cons, Bool.and_eq_true] at ha
    have e : scriptL (r :: L) = lineL r ++ 10 :: scriptL L := by unfold scriptL; simp
    have hc := cut_app (line_no10 r) (scriptL L)
    rw [e]
    have h3 : isSh r = false ∨ out.any isSh = false := by
      cases h1 : isSh r
      · exact .inl rfl
      · cases h2 : out.any isSh
        · exact .inr rfl
        · exfalso
          unfold shifts at hs
          rw [List.filter_append, List.length_append, List.filter_cons, if_pos h1, List.length_cons] at hs
          obtain ⟨q, hq1, hq2⟩ := List.any_eq_true.1 h2
          have : 0 < (out.filter isSh).length := List.length_pos_of_mem (List.mem_filter.2 ⟨hq1, hq2⟩)
          omega
    rw [rulesG_step (r := r) (by simp) (by rw [hc]) (by rw [hc]; exact ruleAt_some ha.1 rfl) h3, hc]
    rw [rules_script L k (out ++ [r]) (by simp at h; omega) ha.2 (by rw [List.append_assoc]; exact hs), List.append_assoc]; rfl
end Go.Proofs.YthdidjnhfkeokaaDoor
