/- Contracts of the reference's SameLight, SameNotes, SamePulses and SameRules, at equal lists. -/
import Derived.Test.YthdidjnhfkeokaaDoorVa
import Derived.Test.YthdidjnhfkeokaaDoorQc
namespace Go.Proofs.YthdidjnhfkeokaaDoor
open Go.RowKit

set_option maxRecDepth 100000 in
set_option maxHeartbeats 3200000 in
theorem sameRules_c (A A' : Option Addr) (n c n' c' : Nat) (L : List Ru) (w : World) (r : Rd eRu w w.heap.size A n c L) (q : Rd eRu w w.heap.size A' n' c' L) :
    Calls Tryd.prog 20 #[.slice A n c, .slice A' n' c'] w fun e w' => e = .returned (.bool true) ∧ Below w.heap.size w w' := by
  have hl := r.len
  have hm := r.max
  have hcap := r.cap
  have hl' := q.len
  have hm' := q.max
  have hcap' := q.cap
  obtain rfl : n = n' := by omega
  clear hl'
  go_enter Tryd.func20, Tryd.ntmps20
  go_wp2
  go_loopw [5] (fun iv wr => ∃ k : Nat, k ≤ n ∧ iv = .int .i64 k ∧ Below w.heap.size w wr) (fun iv _ => n - (intOf iv).toNat)
  case atStart => exact ⟨0, by omega, rfl, Below.refl _ _⟩
  case round =>
    obtain ⟨k, hk, rfl, hbw⟩ := hrel
    by_cases hlt : k < n
    · obtain ⟨b, off, x, rfl, hb, hx, hc⟩ := (r.below hbw).get hlt
      obtain ⟨b', off', x', rfl, hb', hx', hc'⟩ := (q.below hbw).get hlt
      have hxx : x = x' := by rw [hx] at hx'; injection hx'
      subst hxx
      have c0 := hc 0 _ rfl
      have d0 := hc' 0 _ rfl
      have c1 := hc 1 _ rfl
      have d1 := hc' 1 _ rfl
      have c2 := hc 2 _ rfl
      have d2 := hc' 2 _ rfl
      have c3 := hc 3 _ rfl
      have d3 := hc' 3 _ rfl
      have c4 := hc 4 _ rfl
      have d4 := hc' 4 _ rfl
      simp only [eRu, Nat.add_zero] at c0 d0 c1 d1 c2 d2 c3 d3 c4 d4
      clear hc hc' hx hx'
      obtain ⟨x0, x1, x2, x3, x4⟩ := x
      simp only at c0 d0 c1 d1 c2 d2 c3 d3 c4 d4
      go_wp2
      go_quiet (fail)
      go_wp2
      go_roundw
      case rel => exact ⟨k + 1, by omega, by go_num, below_drewN hbw _⟩
      case measure => simp [intOf] <;> omega
    · go_wp2
      go_ret
      exact ⟨rfl, hbw⟩
end Go.Proofs.YthdidjnhfkeokaaDoor
