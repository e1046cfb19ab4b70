/- Contract of the reference's SameClicks. -/
import Derived.Test.YtddajmagdjkodaaDoorQu
namespace Go.Proofs.YtddajmagdjkodaaDoor
open Go.RowKit

def sameCk (a b : Ck) : Bool := decide (a.b = b.b ∧ a.k = b.k)
theorem sameCk_refl (a : Ck) : sameCk a a = true := by simp [sameCk]

set_option maxRecDepth 100000 in
set_option maxHeartbeats 1600000 in
/-- Two lists of clicks that are the same. -/
theorem sameClicks_c (A A' : Option Addr) (n c n' c' : Nat) (L : List Ck) (w : World) (r : Rd eCk w w.heap.size A n c L) (q : Rd eCk w w.heap.size A' n' c' L) :
    Calls Tryd.prog 28 #[.slice A n c, .slice A' n' c'] w fun e w' => e = .returned (.bool true) ∧ Below w.heap.size w w' := by
  have hl := r.len
  have hm := r.max
  have hcap := r.cap
  have hl' := q.len
  have hm' := q.max
  have hcap' := q.cap
  obtain rfl : n = n' := by omega
  clear hl'
  go_enter Tryd.func28, Tryd.ntmps28
  go_wp2
  go_loopw [5] (fun iv wr => ∃ k : Nat, k ≤ n ∧ iv = .int .i64 k ∧ Below w.heap.size w wr) (fun iv _ => n - (intOf iv).toNat)
  case atStart => exact ⟨0, by omega, rfl, Below.refl _ _⟩
  case round =>
    obtain ⟨k, hk, rfl, hbw⟩ := hrel
    by_cases hlt : k < n
    · obtain ⟨b, off, x, rfl, hb, hx, hc⟩ := (r.below hbw).get hlt
      obtain ⟨b', off', x', rfl, hb', hx', hc'⟩ := (q.below hbw).get hlt
      have hxx : x = x' := by rw [hx] at hx'; injection hx'
      subst hxx
      have c0 := hc 0 _ rfl
      have c1 := hc 1 _ rfl
      have d0 := hc' 0 _ rfl
      have d1 := hc' 1 _ rfl
      simp only [eCk, Nat.add_zero] at c0 c1 d0 d1
      clear hc hc' hx hx'
      obtain ⟨xb, xk⟩ := x
      simp only at c0 c1 d0 d1
      go_wp2
      go_quiet (fail)
      go_wp2
      go_roundw
      case rel => exact ⟨k + 1, by omega, by go_num, below_drewN hbw _⟩
      case measure => simp [intOf] <;> omega
    · go_wp2
      go_ret
      exact ⟨rfl, hbw⟩
end Go.Proofs.YtddajmagdjkodaaDoor
