/- Contract of the reference's row and Check. -/
import Derived.Test.YthdidjnhfkeokaaDoorQi
namespace Go.Proofs.YthdidjnhfkeokaaDoor
open Go.RowKit

set_option maxRecDepth 100000 in
set_option maxHeartbeats 1600000 in
theorem rrow_c (A : Option Addr) (n c : Nat) (L : List Int) (w : World) (B : Nat) (s : Rd eInt w B A n c L) (hn : n ≤ 1000) :
    Calls Tryd.prog 40 #[.slice A n c] w fun e w' => e = .returned (.bool (wts L)) ∧ w = w' := by
  have hl := s.len
  have hm := s.max
  have hcap := s.cap
  have HL := hide hl
  clear hl
  go_enter Tryd.func40, Tryd.ntmps40
  go_wp2
  go_loop [3, 4] (fun sv iv => ∃ k : Nat, k ≤ n ∧ iv = .int .i64 k ∧ sv = .int .i64 (L.take k).sum ∧ (L.take k).all part = true) (fun _ iv => n - (intOf iv).toNat)
  case atStart => exact ⟨0, by omega, rfl, by simp, by simp⟩
  case round =>
    obtain ⟨k, hk, rfl, rfl, hall⟩ := hrel
    have hbd := sum_bd hall
    rw [List.length_take] at hbd
    have HA := hide hall
    clear hall
    by_cases hlt : k < n
    · obtain ⟨b, off, x, rfl, hb, hx, hc⟩ := s.get hlt
      have c0 := hc 0 _ rfl
      simp only [eInt, Nat.add_zero, Nat.mul_one] at c0
      have HX := hide hx
      clear hc hx
      have hpc := rpart_c x
      obtain ⟨s0, hs0⟩ : ∃ s0, s0 = (L.take k).sum := ⟨_, rfl⟩
      rw [← hs0] at hbd ⊢
      have HS := hide hs0
      clear hs0
      have b1 : 0 ≤ s0 := by omega
      have b2 : s0 ≤ 256000 := by omega
      clear hbd
      by_cases hp : part x = true
      · have hpx := (part_iff x).1 hp
        obtain ⟨p1, p2⟩ := hpx
        rw [hp] at hpc
        have HP := hide hpc
        have HO := hide hp
        clear hpc hp
        go_wp2_with (go_at_call 41; refine (HP.out _).mono ?_; rintro e w' ⟨rfl, rfl⟩)
        go_round
        case rel => exact ⟨k + 1, by omega, by go_num, by rw [sum_take_succ HX.out, ← HS.out], all_take_succ HA.out HX.out HO.out⟩
        case measure => simp [intOf] <;> omega
      · have hp : part x = false := by simpa using hp
        rw [hp] at hpc
        have HP := hide hpc
        have HO := hide hp
        clear hpc hp
        go_wp2_with (go_at_call 41; refine (HP.out _).mono ?_; rintro e w' ⟨rfl, rfl⟩)
        go_ret
        refine ⟨ret_b ?_, rfl⟩
        unfold wts; rw [all_false HX.out HO.out]; rfl
    · have hall := all_whole HA.out HL.out hlt
      have hke : L.take k = L := List.take_of_length_le (by have := HL.out; omega)
      rw [hke]
      go_wp2
      go_ret
      refine ⟨ret_b ?_, rfl⟩
      unfold wts; rw [hall]; simp
      rw [Bool.eq_iff_iff]; simp

theorem wts_first {a b c d : Int} (h : wts [a, b, c, d] = true) (ha : a = 256) : b = 0 ∧ c = 0 ∧ d = 0 := by
  simp only [wts, List.all_cons, List.all_nil, Bool.and_true, Bool.and_eq_true] at h
  obtain ⟨⟨h1, h2, h3, h4⟩, h5⟩ := h
  have h5 := of_decide_eq_true h5
  simp only [List.sum_cons, List.sum_nil] at h5
  have := (part_iff _).1 h1; have := (part_iff _).1 h2; have := (part_iff _).1 h3; have := (part_iff _).1 h4
  omega
theorem wts_last {a b c : Int} (h : wts [a, b, c] = true) (hc : c = 256) : a = 0 ∧ b = 0 := by
  simp only [wts, List.all_cons, List.all_nil, Bool.and_true, Bool.and_eq_true] at h
  obtain ⟨⟨h1, h2, h3⟩, h5⟩ := h
  have h5 := of_decide_eq_true h5
  simp only [List.sum_cons, List.sum_nil] at h5
  have := (part_iff _).1 h1; have := (part_iff _).1 h2; have := (part_iff _).1 h3
  omega
/-- What the reference asks: the first weights alone. -/
theorem okO_iff {f : Nat → Int} (hA : okA f = true) (hr : rowsOk f 3 = true) : okO f = (decide (f 4 = 256) && (decide (f 0 = 1) || (decide (f 3 = 256) && decide (f 8 = 256)))) := by
  have hA2 := hA
  simp only [okA, Bool.and_eq_true] at hA2
  have r0 : wts (rowL f 0) = true := List.all_eq_true.1 hr 0 (by simp)
  have r1 : wts (rowL f 1) = true := List.all_eq_true.1 hr 1 (by simp)
  have e1 : f 4 = 256 → f 5 = 0 ∧ f 6 = 0 ∧ f 7 = 0 := fun h => wts_first r0 h
  have e2 : f 8 = 256 → f 9 = 0 ∧ f 10 = 0 ∧ f 11 = 0 := fun h => wts_first r1 h
  have e3 : f 3 = 256 → f 1 = 0 ∧ f 2 = 0 := fun h => wts_last hA2.1.1.2 h
  unfold okO
  rw [hA, hr, Bool.eq_iff_iff]
  simp only [okB, okC, Bool.true_and, Bool.and_eq_true, Bool.or_eq_true, decide_eq_true_eq]
  omega
end Go.Proofs.YthdidjnhfkeokaaDoor
