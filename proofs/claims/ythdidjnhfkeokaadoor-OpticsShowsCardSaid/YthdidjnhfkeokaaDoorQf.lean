/- Contract of optics.Knows. -/
import Derived.Test.YthdidjnhfkeokaaDoorQb
namespace Go.Proofs.YthdidjnhfkeokaaDoor
open Go.RowKit

/-- What Knows returns. -/
def SKnows (L : List Pu) (N : List No) (w : World) (e : Ending) (w' : World) : Prop :=
  ∃ A1 n1 c1, e = .returned (.tuple #[.slice A1 n1 c1, .int .i64 (knowsErr L N)]) ∧ Rd eNat w' w'.heap.size A1 n1 c1 (knowsL L N) ∧ Below w.heap.size w w'
theorem SKnows.err {L : List Pu} {N : List No} {err : Int} {w w' : World} (h : knowsErr L N = err) (h0 : err ≠ 0) (hb : Below w.heap.size w w') : SKnows L N w (.returned (.tuple #[.slice none 0 0, .int .i64 err])) w' := by
  refine ⟨none, 0, 0, by rw [h], ?_, hb⟩
  unfold knowsL; rw [if_neg (by omega)]; exact Rd.nil _ _ _ _ (by omega)
theorem SKnows.ok {L : List Pu} {N : List No} {w w' : World} {A1 : Option Addr} {n1 c1 : Nat} (h : knowsErr L N = 0) (s1 : Rd eNat w' w'.heap.size A1 n1 c1 (idx (marks L N) L.length)) (hb : Below w.heap.size w w') :
    SKnows L N w (.returned (.tuple #[.slice A1 n1 c1, .int .i64 0])) w' := by
  refine ⟨A1, n1, c1, by rw [h], ?_, hb⟩
  unfold knowsL; rw [if_pos h]; exact s1
theorem knowsErr_pulse {L : List Pu} {N : List No} (h : pulsesErr L ≠ 0) : knowsErr L N = pulsesErr L := by unfold knowsErr; rw [if_pos h]
theorem knowsErr_many {L : List Pu} {N : List No} (h : pulsesErr L = 0) (h2 : 131072 < N.length) : knowsErr L N = 5 := by unfold knowsErr; rw [if_neg (by simp [h]), if_pos h2]
theorem knowsErr_note {L : List Pu} {N : List No} (h : pulsesErr L = 0) (h2 : ¬ 131072 < N.length) : knowsErr L N = noteErr L.length N := by unfold knowsErr; rw [if_neg (by simp [h]), if_neg h2]
theorem okNo_mk {x : No} (h1 : 1 ≤ x.how) (h2 : x.how ≤ 3) (h3 : 0 ≤ x.b) (h4 : x.b ≤ 1) : okNo x = true := by unfold okNo; exact decide_eq_true ⟨h1, h2, h3, h4⟩
theorem okNo_not {x : No} (h : ¬(1 ≤ x.how ∧ x.how ≤ 3 ∧ 0 ≤ x.b ∧ x.b ≤ 1)) : okNo x = false := by unfold okNo; exact decide_eq_false h
theorem inNo_mk {n : Nat} {x : No} (h1 : 0 ≤ x.slot) (h2 : x.slot < n) : inNo n x = true := by unfold inNo; exact decide_eq_true ⟨h1, h2⟩
theorem inNo_not {n : Nat} {x : No} (h : ¬(0 ≤ x.slot ∧ x.slot < n)) : inNo n x = false := by unfold inNo; exact decide_eq_false h
theorem pulsesErr_cases (L : List Pu) : pulsesErr L = 0 ∨ pulsesErr L = 2 ∨ pulsesErr L = 5 := by
  unfold pulsesErr; split
  · exact .inr (.inr rfl)
  · split
    · exact .inl rfl
    · exact .inr (.inl rfl)
theorem pulsesErr_le {L : List Pu} (h : pulsesErr L = 0) : L.length ≤ 4096 := by
  unfold pulsesErr at h; split at h
  · omega
  · omega

end Go.Proofs.YthdidjnhfkeokaaDoor
