/- What Parse returns: the arrangement whose text it is. Plain Lean. -/
import Derived.Test.YthdidjnhfkeokaaDoorZe
namespace Go.Proofs.YthdidjnhfkeokaaDoor
open Go.RowKit

theorem strB_inj {a b : List UInt8} (h : strB a = strB b) : a = b := by rw [← lst_strB a, h, lst_strB]
theorem lst_inj {a b : ByteArray} (h : lst a = lst b) : a = b := by rw [← strB_lst a, h, strB_lst]
theorem digits_no32 (n : Nat) : (32 : UInt8) ∉ Lib.decDigits n := fun h => by
  have := List.all_eq_true.1 (decDigits_all n).1 32 h
  simp [isDig] at this
theorem kw_no32 (k : Int) : (32 : UInt8) ∉ lst (kw k) := by
  unfold kw; (repeat' split) <;> simp [lst]
theorem words18_get (f : Nat → Int) {k i : Nat} (h : i < k) : (words18 f k)[1 + i]? = some (itoaB (f (1 + i))) := by
  unfold words18
  rw [Nat.add_comm 1 i, List.getElem?_cons_succ, List.getElem?_map, List.getElem?_range' h]
  simp [Nat.add_comm]
theorem words_text {f : Nat → Int} (h : okO f = true) : wordsB (textB f) = words18 f 17 := by
  have hw : wordsL (txL f 17) = (words18 f 17).map lst := by
    unfold txL
    refine words_join _ (by simp [words18]) fun x hx => ?_
    obtain ⟨y, hy, rfl⟩ := List.mem_map.1 hx
    unfold words18 at hy
    rcases List.mem_cons.1 hy with rfl | hy
    · exact kw_no32 _
    · obtain ⟨i, hi, rfl⟩ := List.mem_map.1 hy
      have hi' : 1 ≤ i ∧ i < 18 := by simp [List.mem_range'] at hi; omega
      rw [itoaB_dig ((okO_parts h).2 i (by omega) (by omega)).1, lst_strB]
      exact digits_no32 _
  rw [textB_tx]
  unfold wordsB partsB
  rw [lst_strB]
  unfold wordsL at hw
  rw [hw, List.map_map]
  conv => rhs; rw [← List.map_id (words18 f 17)]
  exact List.map_congr_left fun x _ => strB_lst x
theorem kw_inj {a b : Int} (ha : 0 ≤ a ∧ a ≤ 2) (hb : 0 ≤ b ∧ b ≤ 2) (h : kw a = kw b) : a = b := by
  have h' : a = 0 ∨ a = 1 ∨ a = 2 := by omega
  have h'' : b = 0 ∨ b = 1 ∨ b = 2 := by omega
  rcases h' with rfl | rfl | rfl <;> rcases h'' with rfl | rfl | rfl <;> first | rfl | (exact absurd (congrArg lst h) (by decide))
/-- The number that a word of the sources says; -1: none. -/
def kix (w0 : ByteArray) : Nat → Int
  | 0 => -1
  | k + 1 => if w0 = kw k then k else kix w0 k
theorem kix_kw {k : Int} (hk : 0 ≤ k ∧ k ≤ 2) : kix (kw k) 3 = k := by
  have h' : k = 0 ∨ k = 1 ∨ k = 2 := by omega
  rcases h' with rfl | rfl | rfl <;> decide
theorem kix_nonneg {w0 : ByteArray} (h : 0 ≤ kix w0 3) : kw (kix w0 3) = w0 ∧ kix w0 3 ≤ 2 := by
  simp only [kix] at h ⊢
  split
  · rename_i e; exact ⟨e.symm, by omega⟩
  · split
    · rename_i e; exact ⟨e.symm, by omega⟩
    · split
      · rename_i e; exact ⟨e.symm, by omega⟩
      · rename_i h1 h2 h3; rw [if_neg h1, if_neg h2, if_neg h3] at h; omega
/-- What Parse has read behind i numbers. -/
def PF (ws : List ByteArray) (kf : Int) (i : Nat) : Nat → Int := fun j => if j = 0 then kf else if j ≤ i then (smallV (lst (ws.getD j ByteArray.empty)) : Nat) else 0
def upd (f : Nat → Int) (j : Nat) (v : Int) : Nat → Int := fun i => if i = j then v else f i
theorem cells18_set (f : Nat → Int) {j : Nat} (hj : j < 18) (v : Int) : (cells18 f).setIfInBounds j (.int .i64 v) = cells18 (upd f j v) := by
  match j, hj with
  | 0, _ | 1, _ | 2, _ | 3, _ | 4, _ | 5, _ | 6, _ | 7, _ | 8, _ | 9, _ | 10, _ | 11, _ | 12, _ | 13, _ | 14, _ | 15, _ | 16, _ | 17, _ => rfl
  | j + 18, h => omega
theorem upd_zero (ws : List ByteArray) (kf kf' : Int) (i : Nat) : upd (PF ws kf i) 0 kf' = PF ws kf' i := by
  funext j; unfold upd PF; split <;> rfl
theorem upd_next {ws : List ByteArray} {kf : Int} {i : Nat} {x : ByteArray} (hx : ws[1 + i]? = some x) : upd (PF ws kf i) (1 + i) (smallV (lst x) : Nat) = PF ws kf (1 + i) := by
  funext j; unfold upd PF
  by_cases h0 : j = 0
  · subst h0; rw [if_neg (by omega), if_pos rfl, if_pos rfl]
  · rw [if_neg h0, if_neg h0]
    by_cases h1 : j = 1 + i
    · subst h1; rw [if_pos rfl, if_pos (Nat.le_refl _), List.getD_eq_getElem?_getD, hx]; rfl
    · rw [if_neg h1]
      by_cases h2 : j ≤ i
      · rw [if_pos h2, if_pos (by omega)]
      · rw [if_neg h2, if_neg (by omega)]
theorem PF_start (ws : List ByteArray) : cells18 (PF ws (-1) 0) = #[.int .i64 (-1), .int .i64 0, .int .i64 0, .int .i64 0, .int .i64 0, .int .i64 0, .int .i64 0, .int .i64 0, .int .i64 0, .int .i64 0, .int .i64 0, .int .i64 0, .int .i64 0, .int .i64 0, .int .i64 0, .int .i64 0, .int .i64 0, .int .i64 0] := rfl
theorem okO_congr {f g : Nat → Int} (h : ∀ j, j < 18 → f j = g j) : okO f = okO g := by
  unfold okO okA okB okC rowsOk
  simp only [rowL, h 0 (by omega), h 1 (by omega), h 2 (by omega), h 3 (by omega), h 4 (by omega), h 5 (by omega), h 6 (by omega), h 7 (by omega), h 8 (by omega), h 9 (by omega), h 10 (by omega), h 11 (by omega), h 16 (by omega), h 17 (by omega)]
  congr 3
  simp only [List.range, List.range.loop, List.all_cons, List.all_nil]
  simp only [h 4 (by omega), h 5 (by omega), h 6 (by omega), h 7 (by omega), h 8 (by omega), h 9 (by omega), h 10 (by omega), h 11 (by omega), h 12 (by omega), h 13 (by omega), h 14 (by omega), h 15 (by omega)]
/-- The arrangement and the error that Parse returns of a text. -/
def SPar (s : ByteArray) (f : Nat → Int) (err : Int) : Prop := (err = 0 ∧ okO f = true ∧ textB f = s) ∨ (err = 6 ∧ f = (fun _ => 0) ∧ ∀ g, okO g = true → textB g ≠ s)
section
variable {s : ByteArray} {g : Nat → Int}
theorem par_len (h : okO g = true) (e : textB g = s) : (wordsB s).length = 18 := by rw [← e, words_text h, words18_len]
theorem par_word (h : okO g = true) (e : textB g = s) {i : Nat} (hi : i < 17) : (wordsB s)[1 + i]? = some (strB (Lib.decDigits (g (1 + i)).toNat)) := by
  rw [← e, words_text h, words18_get g hi, itoaB_dig ((okO_parts h).2 (1 + i) (by omega) (by omega)).1]
theorem par_kind (h : okO g = true) (e : textB g = s) : (wordsB s)[0]? = some (kw (g 0)) := by rw [← e, words_text h]; rfl
theorem digits_le4 {n : Nat} (h : n ≤ 256) : (Lib.decDigits n).length ≤ 4 := by
  rw [Lib.decDigits]; split
  · simp
  · rw [List.length_append, Lib.decDigits]; split
    · simp
    · rw [List.length_append, Lib.decDigits]; split
      · simp
      · omega
theorem small_digits {n : Nat} (h : n ≤ 256) : smallOk (Lib.decDigits n) = true ∧ smallV (Lib.decDigits n) = n := by
  have h1 : smallOk (Lib.decDigits n) = true := by unfold smallOk; rw [decide_eq_true (digits_le4 h), okNum_digits]; rfl
  exact ⟨h1, by unfold smallV; rw [if_pos h1]; exact (decDigits_all n).2.1⟩
theorem SPar.badLen (h : ¬ (wordsB s).length = 18) : SPar s (fun _ => 0) 6 := .inr ⟨rfl, rfl, fun _ hg e => h (par_len hg e)⟩
theorem SPar.badNum {i : Nat} {x : ByteArray} (hi : i < 17) (hx : (wordsB s)[1 + i]? = some x) (h : smallOk (lst x) = false) : SPar s (fun _ => 0) 6 := .inr ⟨rfl, rfl, fun g hg e => by
  rw [par_word hg e hi] at hx
  obtain rfl := Option.some.inj hx
  have hb := (okO_parts hg).2 (1 + i) (by omega) (by omega)
  rw [lst_strB, (small_digits (by omega)).1] at h
  cases h⟩
theorem PF_of {w0 : ByteArray} (h0 : (wordsB s)[0]? = some w0) (hg : okO g = true) (e : textB g = s) (j : Nat) (hj : j < 18) : PF (wordsB s) (kix w0 3) 17 j = g j := by
  unfold PF
  by_cases hj0 : j = 0
  · subst hj0
    rw [if_pos rfl]
    rw [par_kind hg e] at h0
    obtain rfl := Option.some.inj h0
    exact kix_kw (okO_parts hg).1
  · rw [if_neg hj0, if_pos (by omega), List.getD_eq_getElem?_getD, show j = 1 + (j - 1) by omega, par_word hg e (by omega)]
    have hb := (okO_parts hg).2 (1 + (j - 1)) (by omega) (by omega)
    rw [Option.getD_some, lst_strB, (small_digits (by omega)).2]; omega
theorem SPar.badCheck {w0 : ByteArray} (h0 : (wordsB s)[0]? = some w0) (h : okO (PF (wordsB s) (kix w0 3) 17) = false) : SPar s (fun _ => 0) 6 := .inr ⟨rfl, rfl, fun g hg e => by
  rw [okO_congr (PF_of h0 hg e), hg] at h; cases h⟩
theorem SPar.good {w0 : ByteArray} (h0 : (wordsB s)[0]? = some w0) (hl : (wordsB s).length = 18) (hn : ∀ i x, i < 17 → (wordsB s)[1 + i]? = some x → smallOk (lst x) = true) (h : okO (PF (wordsB s) (kix w0 3) 17) = true) : SPar s (PF (wordsB s) (kix w0 3) 17) 0 := by
  refine .inl ⟨rfl, h, ?_⟩
  have hw : words18 (PF (wordsB s) (kix w0 3) 17) 17 = wordsB s := by
    refine List.ext_getElem? fun k => ?_
    by_cases hk : k < 18
    · by_cases hk0 : k = 0
      · subst hk0
        rw [h0]
        have hp := (okO_parts h).1
        have e0 : PF (wordsB s) (kix w0 3) 17 0 = kix w0 3 := rfl
        rw [e0] at hp
        show some (kw (PF (wordsB s) (kix w0 3) 17 0)) = some w0
        rw [e0, (kix_nonneg hp.1).1]
      · obtain ⟨i, rfl⟩ : ∃ i, k = 1 + i := ⟨k - 1, by omega⟩
        have hx : (wordsB s)[1 + i]? = some ((wordsB s)[1 + i]'(by omega)) := List.getElem?_eq_getElem (by omega)
        have hs := hn i _ (by omega) hx
        rw [words18_get _ (by omega), hx]
        have e1 : PF (wordsB s) (kix w0 3) 17 (1 + i) = (smallV (lst ((wordsB s)[1 + i]'(by omega))) : Nat) := by
          unfold PF; rw [if_neg (by omega), if_pos (by omega), List.getD_eq_getElem?_getD, hx]; rfl
        rw [e1, itoaB_dig (by omega), Int.toNat_natCast]
        unfold smallV
        rw [if_pos hs]
        have hok : okNum (lst ((wordsB s)[1 + i]'(by omega))) = true := by
          unfold smallOk at hs; simp only [Bool.and_eq_true] at hs; exact hs.2
        rw [digits_dec _ hok, strB_lst]
    · rw [List.getElem?_eq_none (by rw [words18_len]; omega), List.getElem?_eq_none (by omega)]
  rw [textB_tx]
  unfold txL
  rw [hw]
  unfold wordsB partsB
  rw [List.map_map]
  have : (lst ∘ strB) = id := by funext l; exact lst_strB l
  rw [this, List.map_id]
  rw [show partsL 32 (lst s) = wordsL (lst s) from rfl, join_words, strB_lst]
theorem SPar.uniq {s : ByteArray} {f g : Nat → Int} {e1 e2 : Int} (h : SPar s f e1) (k : SPar s g e2) : cells18 f = cells18 g ∧ e1 = e2 := by
  rcases h with ⟨h1, h2, h3⟩ | ⟨h1, h2, h3⟩ <;> rcases k with ⟨k1, k2, k3⟩ | ⟨k1, k2, k3⟩
  · have h0 := par_kind h2 h3
    have hf := PF_of h0 h2 h3
    have hg := PF_of h0 k2 k3
    have hj : ∀ j, j < 18 → f j = g j := fun j hj => (hf j hj).symm.trans (hg j hj)
    refine ⟨?_, by rw [h1, k1]⟩
    unfold cells18
    simp only [hj 0 (by omega), hj 1 (by omega), hj 2 (by omega), hj 3 (by omega), hj 4 (by omega), hj 5 (by omega), hj 6 (by omega), hj 7 (by omega), hj 8 (by omega), hj 9 (by omega), hj 10 (by omega), hj 11 (by omega), hj 12 (by omega), hj 13 (by omega), hj 14 (by omega), hj 15 (by omega), hj 16 (by omega), hj 17 (by omega)]
  · exact absurd h3 (k3 f h2)
  · exact absurd k3 (h3 g k2)
  · exact ⟨by rw [h2, k2], by rw [h1, k1]⟩
end
end Go.Proofs.YthdidjnhfkeokaaDoor
