/- Contracts of the validity of pulses: optics.valid, the reference's pulse, pulses, truth, shiftable. -/
import Derived.Test.YthdidjnhfkeokaaDoorQc
namespace Go.Proofs.YthdidjnhfkeokaaDoor
open Go.RowKit

theorem pulsesErr_many {L : List Pu} (h : 4096 < L.length) : pulsesErr L = 5 := by unfold pulsesErr; rw [if_pos h]
theorem pulsesErr_bad {L : List Pu} {k : Nat} {x : Pu} (h : L.length ≤ 4096) (hx : L[k]? = some x) (hf : okPu x = false) : pulsesErr L = 2 := by
  unfold pulsesErr; rw [if_neg (by omega), if_neg (by rw [all_false hx hf]; simp)]
theorem pulsesErr_ok {L : List Pu} (h : L.length ≤ 4096) (ha : L.all okPu = true) : pulsesErr L = 0 := by
  unfold pulsesErr; rw [if_neg (by omega), if_pos ha]
theorem okPu_mk {x : Pu} (h1 : 0 ≤ x.b) (h2 : x.b ≤ 1) (h3 : 0 ≤ x.cl) (h4 : x.cl ≤ 2) (h5 : 0 ≤ x.ph) (h6 : x.ph ≤ 3) : okPu x = true := by
  unfold okPu; exact decide_eq_true ⟨h1, h2, h3, h4, h5, h6⟩
theorem okPu_not {x : Pu} (h : ¬(0 ≤ x.b ∧ x.b ≤ 1 ∧ 0 ≤ x.cl ∧ x.cl ≤ 2 ∧ 0 ≤ x.ph ∧ x.ph ≤ 3)) : okPu x = false := by
  unfold okPu; exact decide_eq_false h

set_option maxRecDepth 100000 in
set_option maxHeartbeats 1600000 in
theorem valid_c (A : Option Addr) (n c : Nat) (L : List Pu) (w : World) (s : Rd ePu w w.heap.size A n c L) :
    Calls Tryd.prog 48 #[.slice A n c] w fun e w' => e = .returned (.int .i64 (pulsesErr L)) ∧ Below w.heap.size w w' := by
  have hl := s.len
  have hm := s.max
  have hcap := s.cap
  have HL := hide hl
  clear hl
  by_cases hbig : 4096 < (n : Int)
  · go_enter Tryd.func48, Tryd.ntmps48
    go_wp2
    go_ret
    exact ⟨ret_i (pulsesErr_many (by have := HL.out; omega)).symm, Below.refl _ _⟩
  · go_enter Tryd.func48, Tryd.ntmps48
    go_wp2
    go_loopw [10] (fun iv wr => ∃ k : Nat, k ≤ n ∧ iv = .int .i64 k ∧ (L.take k).all okPu = true ∧ Below w.heap.size w wr) (fun iv _ => n - (intOf iv).toNat)
    case atStart => exact ⟨0, by omega, rfl, by simp, Below.refl _ _⟩
    case round =>
      obtain ⟨k, hk, rfl, hall, hbw⟩ := hrel
      have HA := hide hall
      clear hall
      by_cases hlt : k < n
      · obtain ⟨b, off, x, rfl, hb, hx, hc⟩ := (s.below hbw).get hlt
        have c0 := hc 0 _ rfl
        have c1 := hc 1 _ rfl
        have c2 := hc 2 _ rfl
        have c3 := hc 3 _ rfl
        have c4 := hc 4 _ rfl
        simp only [ePu, Nat.add_zero] at c0 c1 c2 c3 c4
        have HX := hide hx
        clear hc hx
        go_wp2
        all_goals first
          | (go_roundw
             case rel => exact ⟨k + 1, by omega, by go_num, all_take_succ HA.out HX.out (okPu_mk (by omega) (by omega) (by omega) (by omega) (by omega) (by omega)), hbw.alloc hbw.size _⟩
             case measure => simp [intOf] <;> omega)
          | (go_ret
             exact ⟨ret_i (pulsesErr_bad (by have := HL.out; omega) HX.out (okPu_not (by omega))).symm, hbw.alloc hbw.size _⟩)
      · go_wp2
        go_ret
        exact ⟨ret_i (pulsesErr_ok (by have := HL.out; omega) (by have h := HA.out; rwa [List.take_of_length_le (by have := HL.out; omega)] at h)).symm, hbw⟩

set_option maxRecDepth 100000 in
set_option maxHeartbeats 1600000 in
theorem rtruth_c (n : Int) (w : World) : Calls Tryd.prog 54 #[.int .i64 n] w fun e w' => e = .returned (.bool (decide (n = 0 ∨ n = 1))) ∧ w = w' := by
  go_enter Tryd.func54, Tryd.ntmps54
  go_wp2
  all_goals
    go_ret
    refine ⟨ret_b ?_, rfl⟩
    first | (simp; done) | (simp; omega) | (rw [Bool.eq_iff_iff]; simp; done) | (rw [Bool.eq_iff_iff]; simp; omega)
end Go.Proofs.YthdidjnhfkeokaaDoor
