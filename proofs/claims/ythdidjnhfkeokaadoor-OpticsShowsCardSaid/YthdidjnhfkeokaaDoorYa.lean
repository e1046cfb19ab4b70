/- The plain model of Run; contract of optics.Run. -/
import Derived.Test.YthdidjnhfkeokaaDoorVzb
import Derived.Test.YthdidjnhfkeokaaDoorVo
import Derived.Test.YthdidjnhfkeokaaDoorQv
namespace Go.Proofs.YthdidjnhfkeokaaDoor
open Go.RowKit

def runErr (f : Nat → Int) (L : List Ru) (n : Int) : Int := if checkErr f ≠ 0 then checkErr f else if rulesErr L ≠ 0 then rulesErr L else emitErr f n
def runP (f : Nat → Int) (L : List Ru) (n : Int) (a : Nat) : List Pu := if runErr f L n = 0 then emitL f n a else []
def runN (f : Nat → Int) (L : List Ru) (n : Int) (a b : Nat) : List No := if runErr f L n = 0 then carryN L (emitL f n a) b else []
def runC (f : Nat → Int) (L : List Ru) (n : Int) (a b c : Nat) : List Ck := if runErr f L n = 0 then detL f (shiftErr L) (carryX L (emitL f n a) b) c else []
def runSh (f : Nat → Int) (L : List Ru) (n : Int) : Int := if runErr f L n = 0 then shiftErr L else 0
/-- A flight: its pulses, clicks, notes and shift. -/
def SRun (f : Nat → Int) (L : List Ru) (n : Int) (a b c : Nat) (w : World) (e : Ending) (w' : World) : Prop :=
  ∃ A1 n1 c1 A2 n2 c2 A3 n3 c3, e = .returned (.tuple #[.agg #[.slice A1 n1 c1, .slice A2 n2 c2, .slice A3 n3 c3, .int .i64 (runSh f L n)], .int .i64 (runErr f L n)]) ∧
    Rd ePu w' w'.heap.size A1 n1 c1 (runP f L n a) ∧ Rd eCk w' w'.heap.size A2 n2 c2 (runC f L n a b c) ∧ Rd eNo w' w'.heap.size A3 n3 c3 (runN f L n a b) ∧ Below w.heap.size w w'
theorem SRun.err {f : Nat → Int} {L : List Ru} {n : Int} {a b c : Nat} {w w' : World} {x : Int} (h : runErr f L n = x) (hx : x ≠ 0) (hb : Below w.heap.size w w') :
    SRun f L n a b c w (.returned (.tuple #[.agg #[.slice none 0 0, .slice none 0 0, .slice none 0 0, .int .i64 0], .int .i64 x])) w' := by
  have h0 : ¬ runErr f L n = 0 := by omega
  refine ⟨none, 0, 0, none, 0, 0, none, 0, 0, by rw [h]; unfold runSh; rw [if_neg h0], ?_, ?_, ?_, hb⟩
  · unfold runP; rw [if_neg h0]; exact Rd.nil _ _ _ _ (by omega)
  · unfold runC; rw [if_neg h0]; exact Rd.nil _ _ _ _ (by omega)
  · unfold runN; rw [if_neg h0]; exact Rd.nil _ _ _ _ (by omega)
theorem SRun.ok {f : Nat → Int} {L : List Ru} {n : Int} {a b c : Nat} {w w' : World} {A1 A2 A3 : Option Addr} {n1 c1 n2 c2 n3 c3 : Nat} (h : runErr f L n = 0) (hb : Below w.heap.size w w')
    (r1 : Rd ePu w' w'.heap.size A1 n1 c1 (emitL f n a)) (r2 : Rd eCk w' w'.heap.size A2 n2 c2 (detL f (shiftErr L) (carryX L (emitL f n a) b) c)) (r3 : Rd eNo w' w'.heap.size A3 n3 c3 (carryN L (emitL f n a) b)) :
    SRun f L n a b c w (.returned (.tuple #[.agg #[.slice A1 n1 c1, .slice A2 n2 c2, .slice A3 n3 c3, .int .i64 (shiftErr L)], .int .i64 0])) w' := by
  refine ⟨A1, n1, c1, A2, n2, c2, A3, n3, c3, by rw [h]; unfold runSh; rw [if_pos h], ?_, ?_, ?_, hb⟩
  · unfold runP; rw [if_pos h]; exact r1
  · unfold runC; rw [if_pos h]; exact r2
  · unfold runN; rw [if_pos h]; exact r3
theorem runErr_check {f : Nat → Int} {L : List Ru} {n : Int} (h : checkErr f = 2) : runErr f L n = 2 := by unfold runErr; rw [h]; rfl
theorem runErr_rules {f : Nat → Int} {L : List Ru} {n : Int} (h : checkErr f = 0) (h2 : rulesErr L ≠ 0) : runErr f L n = rulesErr L := by unfold runErr; rw [if_neg (by omega), if_pos h2]
theorem runErr_emit {f : Nat → Int} {L : List Ru} {n : Int} (h : checkErr f = 0) (h2 : rulesErr L = 0) : runErr f L n = emitErr f n := by unfold runErr; rw [if_neg (by omega), if_neg (by omega)]
end Go.Proofs.YthdidjnhfkeokaaDoor
