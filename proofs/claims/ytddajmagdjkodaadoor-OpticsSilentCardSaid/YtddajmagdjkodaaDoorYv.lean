/- Contract of the law's has: it only reads. Plain lemmas of the laws over an arrangement without dark counts: what Agree and Knows return of a flight. -/
import Derived.Test.YtddajmagdjkodaaDoorQc
import Derived.Test.YtddajmagdjkodaaDoorYq
import Derived.Test.YtddajmagdjkodaaDoorQd
import Derived.Test.YtddajmagdjkodaaDoorQf
namespace Go.Proofs.YtddajmagdjkodaaDoor
open Go.RowKit

set_option maxRecDepth 100000 in
set_option maxHeartbeats 1600000 in
theorem has_q (A : Option Addr) (n c : Nat) (L : List Nat) (m : Nat) (w : World) (r : Rd eNat w w.heap.size A n c L) :
    Calls Tryd.prog 47 #[.slice A n c, .int .i64 (m : Int)] w fun e w' => e = .returned (.bool (decide (m ∈ L))) ∧ w' = w := by
  have hm := r.max
  have hcap := r.cap
  have HL := hide r.len
  go_enter Tryd.func47, Tryd.ntmps47
  go_wp2
  go_loopw [5] (fun iv wr => ∃ k : Nat, k ≤ n ∧ iv = .int .i64 k ∧ (L.take k).all (fun x => !decide (x = m)) = true ∧ wr = w) (fun iv _ => n - (intOf iv).toNat)
  case atStart => exact ⟨0, by omega, rfl, rfl, rfl⟩
  case round =>
    obtain ⟨k, hk, rfl, hall, rfl⟩ := hrel
    have HA := hide hall
    clear hall
    by_cases hlt : k < n
    · obtain ⟨b, off, x, rfl, hb, hx, hc⟩ := r.get hlt
      have c0 := hc 0 _ rfl
      simp only [eNat, Nat.add_zero, Nat.mul_one] at c0
      have HX := hide hx
      clear hc hx
      by_cases he : x = m
      · subst he
        go_wp2
        go_ret
        exact ⟨ret_b (by simpa using List.mem_of_getElem? HX.out), rfl⟩
      · have hd : ((x : Int) == (m : Int)) = false := by simp; omega
        have HE := hide he
        clear he
        go_wp2
        go_roundw
        case rel => exact ⟨k + 1, by omega, by go_num, all_take_succ HA.out HX.out (by simpa using HE.out), trivial⟩
        case measure => simp [intOf] <;> omega
    · have HB := hide hlt
      go_wp2
      go_ret
      refine ⟨ret_b ?_, rfl⟩
      have h := all_whole HA.out HL.out HB.out
      rw [List.all_eq_true] at h
      symm
      rw [decide_eq_false_iff_not]
      intro hm
      have := h m hm
      simp at this
end Go.Proofs.YtddajmagdjkodaaDoor
namespace Go.Proofs.YtddajmagdjkodaaDoor
open Go.RowKit

def undark (f : Nat → Int) : Nat → Int := fun k => if k = 17 then 0 else f k
theorem undark_set (f : Nat → Int) : (cells18 f).setIfInBounds 17 (.int .i64 0) = cells18 (undark f) := rfl
/-- Agree over a flight: no error. -/
theorem agree_fl {P : List Pu} {C : List Ck} {m : Nat} (hP : P.all okPu = true) (hC : C.all okCk = true) (hm : m ≤ 4096) (A1 : Option Addr) (c1 : Nat) (A2 : Option Addr) (c2 : Nat) (W : World) (p : Rd ePu W W.heap.size A1 m c1 P) (k : Rd eCk W W.heap.size A2 m c2 C) :
    Calls Tryd.prog 19 #[.slice A1 m c1, .slice A2 m c2, .int .i64 0] W fun e w' => ∃ B1 n1 d1 B2 n2 d2, e = .returned (.tuple #[.slice B1 n1 d1, .slice B2 n2 d2, .int .i64 0]) ∧ Rd eNat w' w'.heap.size B1 n1 d1 (slotsOf (agr C 0) P m) ∧ Rd eNat w' w'.heap.size B2 n2 d2 (slotsOf (dif C 0) P m) ∧ Below W.heap.size W w' := by
  have hpl := p.len
  have hkl := k.len
  have hag := agreeErr_ok hP hC (by omega) (by omega)
  refine (agree_c A1 m c1 P A2 m c2 C 0 W p k).mono fun e w' h => ?_
  obtain ⟨B1, n1, d1, B2, n2, d2, he, q1, q2, hb⟩ := h
  rw [hag] at he
  unfold agreeSame at q1
  unfold agreeWrong at q2
  rw [if_pos hag, hpl] at q1 q2
  exact ⟨B1, n1, d1, B2, n2, d2, he, q1, q2, hb⟩
/-- Knows over a flight: no error. -/
theorem knows_fl {P : List Pu} {N : List No} {m : Nat} (hP : P.all okPu = true) (hN : N.all (fun x => okNo x && inNo m x) = true) (hNl : N.length ≤ 131072) (hm : m ≤ 4096) (A1 : Option Addr) (c1 : Nat) (A2 : Option Addr) (n2 c2 : Nat) (W : World) (p : Rd ePu W W.heap.size A1 m c1 P) (k : Rd eNo W W.heap.size A2 n2 c2 N) :
    Calls Tryd.prog 22 #[.slice A1 m c1, .slice A2 n2 c2] W fun e w' => ∃ B1 n1 d1, e = .returned (.tuple #[.slice B1 n1 d1, .int .i64 0]) ∧ Rd eNat w' w'.heap.size B1 n1 d1 (idx (marks P N) m) ∧ Below W.heap.size W w' := by
  have hpl := p.len
  have hpe : pulsesErr P = 0 := by unfold pulsesErr; rw [if_neg (by omega), if_pos hP]
  have hke : knowsErr P N = 0 := by
    unfold knowsErr; rw [if_neg (by omega), if_neg (by omega), hpl]; exact noteErr_ok hN
  refine (knows_c A1 m c1 P A2 n2 c2 N W p k).mono fun e w' h => ?_
  obtain ⟨B1, n1, d1, he, q1, hb⟩ := h
  rw [hke] at he
  unfold knowsL at q1
  rw [if_pos hke, hpl] at q1
  exact ⟨B1, n1, d1, he, q1, hb⟩
end Go.Proofs.YtddajmagdjkodaaDoor
