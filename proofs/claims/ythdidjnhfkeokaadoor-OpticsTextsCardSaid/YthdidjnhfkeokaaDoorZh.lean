/- What the reference's Parse returns: plain lemmas. Plain Lean. -/
import Derived.Test.YthdidjnhfkeokaaDoorZf
namespace Go.Proofs.YthdidjnhfkeokaaDoor
open Go.RowKit

theorem words18_congr {f g : Nat → Int} (h : ∀ j, j < 18 → f j = g j) : words18 f 17 = words18 g 17 := by
  unfold words18
  rw [h 0 (by omega)]
  congr 1
  refine List.map_congr_left fun i hi => ?_
  have : i < 18 := by simp [List.mem_range'] at hi; omega
  rw [h i this]
theorem textB_congr {f g : Nat → Int} (h : ∀ j, j < 18 → f j = g j) : textB f = textB g := by
  unfold textB; rw [words18_congr h]
theorem num_digits {n : Nat} (h : n ≤ 256) : numV (Lib.decDigits n) = n := by
  have h1 : numOk (Lib.decDigits n) = true := by
    unfold numOk; rw [decide_eq_true (Nat.le_trans (digits_le4 h) (by omega)), okNum_digits]; rfl
  unfold numV; rw [if_pos h1, (decDigits_all n).2.1]
section
variable {s : ByteArray} {f : Nat → Int} {w0 : ByteArray} (h0 : (wordsB s)[0]? = some w0) (hk : f 0 = kix w0 3) (hn : ∀ j x, 1 ≤ j → j < 18 → (wordsB s)[j]? = some x → f j = numV (lst x))
include h0 hk hn
theorem par_ref {g : Nat → Int} (hg : okO g = true) (e : textB g = s) (j : Nat) (hj : j < 18) : f j = g j := by
  by_cases hj0 : j = 0
  · subst hj0
    rw [par_kind hg e] at h0
    obtain rfl := Option.some.inj h0
    rw [hk]; exact kix_kw (okO_parts hg).1
  · have hw := par_word hg e (show j - 1 < 17 by omega)
    rw [show 1 + (j - 1) = j by omega] at hw
    have hb := (okO_parts hg).2 j (by omega) (by omega)
    rw [hn j _ (by omega) hj hw, lst_strB, num_digits (by omega)]; omega
theorem SPar.refBad (h : okO f = false ∨ textB f ≠ s) : SPar s (fun _ => 0) 6 := .inr ⟨rfl, rfl, fun g hg e => by
  have hj := par_ref h0 hk hn hg e
  rcases h with h | h
  · rw [okO_congr hj, hg] at h; cases h
  · exact h (by rw [textB_congr hj, e])⟩
end
theorem SPar.refGood {s : ByteArray} {f : Nat → Int} (h : okO f = true) (e : textB f = s) : SPar s f 0 := .inl ⟨rfl, h, e⟩
end Go.Proofs.YthdidjnhfkeokaaDoor
