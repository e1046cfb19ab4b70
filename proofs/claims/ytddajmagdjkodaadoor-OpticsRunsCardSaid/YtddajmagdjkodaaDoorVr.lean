/- The reference's Act at every valid rule and light. -/
import Derived.Test.YtddajmagdjkodaaDoorVq
import Derived.Test.YtddajmagdjkodaaDoorVn
namespace Go.Proofs.YtddajmagdjkodaaDoor
open Go.RowKit

def actS (r : Ru) (i : Nat) (x : Li) (s : Nat) : Li × List No × Nat := if covers r i then actF r i x s else (x, [], s)
theorem actS_in {r : Ru} {i : Nat} {x : Li} {s : Nat} (h : covers r i = true) : actS r i x s = actF r i x s := by unfold actS; rw [if_pos h]
theorem actS_out {r : Ru} {i : Nat} {x : Li} {s : Nat} (h : covers r i = false) : actS r i x s = (x, [], s) := by unfold actS; rw [if_neg (by simp [h])]
theorem stepF_actS (i : Nat) (t : Li × List No × Nat) (r : Ru) : stepF i t r = ((actS r i t.1 t.2.2).1, t.2.1 ++ (actS r i t.1 t.2.2).2.1, (actS r i t.1 t.2.2).2.2) := by
  unfold stepF actS; split <;> simp

theorem ract_any (r : Ru) (hr : okRu r = true) (i : Nat) (x : Li) (hx : okPh x) (D s : Nat) (w : World) (hD : Rr w D s) :
    Calls Tryd.prog 74 #[.agg (ruC r), .int .i64 i, .agg (liC x), .pointer (some ⟨D, 0, none⟩)] w (SRA (actS r i x s) D w) := by
  obtain ⟨k, fr, td, a, b⟩ := r
  obtain ⟨ph, xb, xt, xr⟩ := x
  obtain ⟨h1, h7⟩ := okRu_kind hr
  simp only at h1 h7
  obtain ⟨P, hP⟩ := Int.eq_ofNat_of_zero_le hx.1
  simp only at hP
  have hP3 : P ≤ 3 := by have := hx.2; simp only at this; omega
  subst hP
  clear hr hx
  obtain ⟨K, rfl⟩ := Int.eq_ofNat_of_zero_le (show 0 ≤ k by omega)
  by_cases hc : covers ⟨(K : Int), fr, td, a, b⟩ i = true
  · rw [actS_in hc]
    have hcc : 4 ≤ K → fr ≤ (i : Int) ∧ (i : Int) ≤ td := fun h4 => by
      unfold covers at hc
      rcases of_decide_eq_true hc with c | c
      · simp only at c; omega
      · exact c
    match K, h1, h7, hcc with
    | 0, h1, _, _ => omega
    | 1, _, _, _ =>
      cases xr
      · have hT : actF ⟨((1 : Nat) : Int), fr, td, a, b⟩ i ⟨P, xb, xt, false⟩ s = (⟨P - lossS a s P, xb, xt, false⟩, [], (lossF a s P).2) := rfl
        rw [hT]; exact ract_loss fr td a b i xb xt P D s w hD hP3
      · rw [actF_bright (by simp) rfl]; exact ract_bright1 fr td a b i P xb xt D s w hD
    | 2, _, _, _ =>
      cases xr
      · by_cases h0 : 0 < P
        · by_cases ht : (bel s 256 : Int) < a
          · have hT : actF ⟨((2 : Nat) : Int), fr, td, a, b⟩ i ⟨P, xb, xt, false⟩ s = (⟨P, xb, !xt, false⟩, [], nx s) := by
              show (if (0 : Int) < P then (if hit a s then (⟨P, xb, !xt, false⟩ : Li) else ⟨P, xb, xt, false⟩, ([] : List No), nx s) else (⟨P, xb, xt, false⟩, [], s)) = _
              rw [if_pos (by omega), if_pos (show hit a s = true from decide_eq_true ht)]
            rw [hT]; exact ract_noise_hit fr td a b i xb xt P D s w hD h0 ht
          · have hT : actF ⟨((2 : Nat) : Int), fr, td, a, b⟩ i ⟨P, xb, xt, false⟩ s = (⟨P, xb, xt, false⟩, [], nx s) := by
              show (if (0 : Int) < P then (if hit a s then (⟨P, xb, !xt, false⟩ : Li) else ⟨P, xb, xt, false⟩, ([] : List No), nx s) else (⟨P, xb, xt, false⟩, [], s)) = _
              rw [if_pos (by omega), if_neg (show ¬ hit a s = true by simpa [hit] using ht)]
            rw [hT]; exact ract_noise_miss fr td a b i xb xt P D s w hD h0 ht
        · obtain rfl : P = 0 := by omega
          have hT : actF ⟨((2 : Nat) : Int), fr, td, a, b⟩ i ⟨((0 : Nat) : Int), xb, xt, false⟩ s = (⟨0, xb, xt, false⟩, [], s) := rfl
          rw [hT]; exact ract_none2 fr td a b i xb xt D s w hD
      · rw [actF_bright (by simp) rfl]; exact ract_bright2 fr td a b i P xb xt D s w hD
    | 3, _, _, _ =>
      cases xr
      · have hT : actF ⟨((3 : Nat) : Int), fr, td, a, b⟩ i ⟨P, xb, xt, false⟩ s = (⟨P, xb, xt, false⟩, [], s) := rfl
        rw [hT]; exact ract_none3 fr td a b i xb xt P D s w hD
      · rw [actF_bright (by simp) rfl]; exact ract_bright3 fr td a b i P xb xt D s w hD
    | 4, _, _, hcc =>
      have hcv := hcc (by omega)
      cases xr
      · by_cases h0 : 0 < P
        · have hB : actF ⟨((4 : Nat) : Int), fr, td, a, b⟩ i ⟨P, xb, xt, false⟩ s = (if hit a s then
              (if (bel (nx s) 2 : Int) = xb then (⟨1, (bel (nx s) 2 : Int), xt, false⟩, [⟨i, 1, (bel (nx s) 2 : Int), xt⟩], nx (nx s))
               else (⟨1, (bel (nx s) 2 : Int), decide (bel (nx (nx s)) 2 = 1), false⟩, [⟨i, 1, (bel (nx s) 2 : Int), decide (bel (nx (nx s)) 2 = 1)⟩], nx (nx (nx s))))
            else (⟨P, xb, xt, false⟩, [], nx s)) := by
            show (if (P : Int) = 0 then _ else _) = _
            rw [if_neg (by omega)]
          rw [hB]
          by_cases ht : (bel s 256 : Int) < a
          · rw [if_pos (show hit a s = true from decide_eq_true ht)]
            by_cases hb : (bel (nx s) 2 : Int) = xb
            · rw [if_pos hb]; exact ract_resend_same fr td a b i xb xt P D s w hD hcv h0 ht hb
            · rw [if_neg hb, ← bel1]; exact ract_resend_diff fr td a b i xb xt P D s w hD hcv h0 ht hb
          · rw [if_neg (show ¬ hit a s = true by simpa [hit] using ht)]; exact ract_resend_miss fr td a b i xb xt P D s w hD hcv h0 ht
        · obtain rfl : P = 0 := by omega
          have hT : actF ⟨((4 : Nat) : Int), fr, td, a, b⟩ i ⟨((0 : Nat) : Int), xb, xt, false⟩ s = (⟨0, xb, xt, false⟩, [], s) := rfl
          rw [hT]; exact ract_none4 fr td a b i xb xt D s w hD hcv
      · rw [actF_bright (by simp) rfl]; exact ract_bright4 fr td a b i P xb xt D s w hD hcv
    | 5, _, _, hcc =>
      have hcv := hcc (by omega)
      cases xr
      · by_cases h2 : 2 ≤ P
        · have hT : actF ⟨((5 : Nat) : Int), fr, td, a, b⟩ i ⟨P, xb, xt, false⟩ s = (⟨P - 1, xb, xt, false⟩, [⟨i, 2, xb, xt⟩], s) := by
            show (if (2 : Int) ≤ P then _ else _) = _
            rw [if_pos (by omega)]
          rw [hT]; exact ract_split fr td a b i xb xt P D s w hD hcv h2 hP3
        · have hT : actF ⟨((5 : Nat) : Int), fr, td, a, b⟩ i ⟨P, xb, xt, false⟩ s = (⟨P, xb, xt, false⟩, [], s) := by
            show (if (2 : Int) ≤ P then _ else _) = _
            rw [if_neg (by omega)]
          rw [hT]; exact ract_none5 fr td a b i xb xt P D s w hD hcv (by omega)
      · rw [actF_bright (by simp) rfl]; exact ract_bright5 fr td a b i P xb xt D s w hD hcv
    | 6, _, _, hcc =>
      have hcv := hcc (by omega)
      cases xr
      · by_cases h2 : P = 1
        · subst h2
          have hB : actF ⟨((6 : Nat) : Int), fr, td, a, b⟩ i ⟨((1 : Nat) : Int), xb, xt, false⟩ s = (if hit a s then ⟨0, xb, xt, false⟩ else ⟨1, xb, xt, false⟩, [], nx s) := rfl
          rw [hB]
          by_cases ht : (bel s 256 : Int) < a
          · rw [if_pos (show hit a s = true from decide_eq_true ht)]; exact ract_starve_hit fr td a b i xb xt D s w hD hcv ht
          · rw [if_neg (show ¬ hit a s = true by simpa [hit] using ht)]; exact ract_starve_miss fr td a b i xb xt D s w hD hcv ht
        · have hT : actF ⟨((6 : Nat) : Int), fr, td, a, b⟩ i ⟨P, xb, xt, false⟩ s = (⟨P, xb, xt, false⟩, [], s) := by
            show (if (P : Int) = 1 then _ else _) = _
            rw [if_neg (by omega)]
          rw [hT]; exact ract_none6 fr td a b i xb xt P D s w hD hcv h2
      · rw [actF_bright (by simp) rfl]; exact ract_bright6 fr td a b i P xb xt D s w hD hcv
    | 7, _, _, hcc =>
      have hcv := hcc (by omega)
      have hT : actF ⟨((7 : Nat) : Int), fr, td, a, b⟩ i ⟨P, xb, xt, xr⟩ s = (⟨0, a, b == 1, true⟩, [⟨i, 3, a, b == 1⟩], s) := rfl
      rw [hT]; exact ract_blind fr td a b i P xb xt xr D s w hD hcv
    | K + 8, _, h7, _ => omega
  · have hcf : covers ⟨(K : Int), fr, td, a, b⟩ i = false := by simpa using hc
    rw [actS_out hcf]
    have hn : ¬ (fr ≤ (i : Int) ∧ (i : Int) ≤ td) := fun c => by rw [covers_in c.1 c.2] at hcf; cases hcf
    have h4 : 4 ≤ K := by
      refine Nat.le_of_not_lt fun h => ?_
      rw [covers_lo (by simp only; omega)] at hcf; cases hcf
    match K, h4, h7 with
    | 4, _, _ => exact ract_out4 fr td a b i P xb xt xr D s w hD hn
    | 5, _, _ => exact ract_out5 fr td a b i P xb xt xr D s w hD hn
    | 6, _, _ => exact ract_out6 fr td a b i P xb xt xr D s w hD hn
    | 7, _, _ => exact ract_out7 fr td a b i P xb xt xr D s w hD hn
    | K + 8, _, h7 => omega
end Go.Proofs.YtddajmagdjkodaaDoor
