/- Contracts of the draws from a seed, of algebra and of the reference. -/
import Derived.Test.YthdidjnhfkeokaaDoorQc
import Derived.Laws.BitsAllLaws
namespace Go.Proofs.YthdidjnhfkeokaaDoor
open Go.RowKit

def a1 (s : Nat) : Nat := 4906513781625342421 * s % 18446744073709551616
def h32 (t : Nat) : Nat := t / 4294967296
def x32 (t : Nat) : Nat := t ^^^ t / 4294967296
def h29 (t : Nat) : Nat := t / 536870912
theorem u64_wrap (n : Nat) : IntKind.u64.wrap (n : Int) = ((n % 18446744073709551616 : Nat) : Int) := by
  simp [IntKind.wrap, IntKind.bits, IntKind.signed]
theorem u64_wrap_lt (n : Nat) (h : n < 18446744073709551616) : IntKind.u64.wrap (n : Int) = (n : Int) := by
  rw [u64_wrap, Nat.mod_eq_of_lt h]
theorem w1 (s : Nat) : IntKind.u64.wrap ((s : Int) * 4906513781625342421) = ((a1 s : Nat) : Int) := by
  rw [show (s : Int) * 4906513781625342421 = ((4906513781625342421 * s : Nat) : Int) by omega, u64_wrap]; rfl
theorem w1' (s : Nat) : IntKind.u64.wrap (4906513781625342421 * (s : Int)) = ((a1 s : Nat) : Int) := by
  rw [show 4906513781625342421 * (s : Int) = ((4906513781625342421 * s : Nat) : Int) by omega, u64_wrap]; rfl
theorem w2 (s : Nat) : IntKind.u64.wrap ((a1 s : Int) + 1181783497276652981) = ((nx s : Nat) : Int) := by
  rw [show (a1 s : Int) + 1181783497276652981 = ((a1 s + 1181783497276652981 : Nat) : Int) by omega, u64_wrap]
  unfold a1 nx; rw [Nat.mod_add_mod]
theorem w3' (t : Nat) (ht : t < 18446744073709551616) : IntKind.u64.wrap ((t : Int).tdiv 4294967296) = ((h32 t : Nat) : Int) := by
  rw [Int.tdiv_eq_ediv_of_nonneg (by omega), show (t : Int) / 4294967296 = ((t / 4294967296 : Nat) : Int) by omega, u64_wrap_lt _ (by omega)]; rfl
theorem w3 (t : Nat) : (t : Int) / 4294967296 = ((h32 t : Nat) : Int) := by unfold h32; omega
theorem w4 (t : Nat) (ht : t < 18446744073709551616) : bits .xor .u64 (t : Int) (h32 t : Int) = ((x32 t : Nat) : Int) := u64_xor_nat t (h32 t) ht (by unfold h32; omega)
theorem w5 (t : Nat) : IntKind.u64.wrap ((x32 t : Int) * 7809847782465536323) = ((ny1 t : Nat) : Int) := by
  rw [show (x32 t : Int) * 7809847782465536323 = ((7809847782465536323 * x32 t : Nat) : Int) by omega, u64_wrap]; rfl
theorem w5' (t : Nat) : IntKind.u64.wrap (7809847782465536323 * (x32 t : Int)) = ((ny1 t : Nat) : Int) := by
  rw [show 7809847782465536323 * (x32 t : Int) = ((7809847782465536323 * x32 t : Nat) : Int) by omega, u64_wrap]; rfl
theorem w6' (t : Nat) (ht : t < 18446744073709551616) : IntKind.u64.wrap ((t : Int).tdiv 536870912) = ((h29 t : Nat) : Int) := by
  rw [Int.tdiv_eq_ediv_of_nonneg (by omega), show (t : Int) / 536870912 = ((t / 536870912 : Nat) : Int) by omega, u64_wrap_lt _ (by omega)]; rfl
theorem w6 (t : Nat) : (t : Int) / 536870912 = ((h29 t : Nat) : Int) := by unfold h29; omega
theorem w7 (s : Nat) : bits .xor .u64 (ny1 (nx s) : Int) (h29 (ny1 (nx s)) : Int) = ((ny s : Nat) : Int) := by
  have hb := ny1_lt (nx s)
  exact u64_xor_nat _ _ hb (by unfold h29; omega)

theorem w9 (s n : Nat) (h1 : 1 ≤ n) (h2 : n ≤ 256) : wrap64 ((ny s : Int) % (n : Int)) = ((bel s n : Nat) : Int) := by
  have hb : bel s n < n := Nat.mod_lt _ (by omega)
  rw [show (ny s : Int) % (n : Int) = ((bel s n : Nat) : Int) from rfl]
  unfold wrap64; omega
theorem bel_lt (s n : Nat) (hn : 1 ≤ n) : bel s n < n := Nat.mod_lt _ (by omega)
def Dr (w : World) (D s : Nat) : Prop := Blk w D 161 #[.int .u64 (s : Int), .bool true]
set_option maxRecDepth 100000 in
set_option maxHeartbeats 1600000 in
theorem new_c (s : Nat) (w : World) : Calls Tryd.prog 77 #[.int .u64 (s : Int)] w fun e w' => e = .returned (.pointer (some ⟨w.heap.size, 0, none⟩)) ∧ Dr w' w.heap.size s ∧ w' = w.alloc (.cells #[.int .u64 (s : Int), .bool true] 161) := by
  go_enter Tryd.func77, Tryd.ntmps77
  go_wp2
  go_ret
  exact ⟨rfl, Blk.new _ _ _, rfl⟩
set_option maxRecDepth 100000 in
set_option maxHeartbeats 1600000 in
theorem made_c (D s : Nat) (w : World) (h : Dr w D s) : Calls Tryd.prog 120 #[.pointer (some ⟨D, 0, none⟩)] w fun e w' => e = .returned (.bool true) ∧ w = w' := by
  have c1 := h.cell 1
  simp at c1
  clear h
  go_enter Tryd.func120, Tryd.ntmps120
  go_wp2
  go_ret
  exact ⟨rfl, rfl⟩
set_option maxRecDepth 100000 in
set_option maxHeartbeats 1600000 in
theorem next_c (D s : Nat) (w : World) (h : Dr w D s) : Calls Tryd.prog 121 #[.pointer (some ⟨D, 0, none⟩)] w fun e w' => e = .returned (.int .u64 (ny s : Int)) ∧ Dr w' D (nx s) ∧ w.grownBy w' (some D) := by
  have c0 := h.cell 0
  have f0 := h.frozen 0
  simp at c0
  have hb := nx_lt s
  have hb2 := ny1_lt (nx s)
  have H1 := hide hb
  have H2 := hide hb2
  clear hb hb2
  go_enter Tryd.func121, Tryd.ntmps121
  go_wp2_with (go_at_call 120; refine (made_c D s w h).mono ?_; rintro e w' ⟨rfl, rfl⟩)
  go_quiet (fail)
  go_wp2
  go_ret
  have hset := h.set_ 0 (.int .u64 (nx s : Int))
  simp only [w1, w2, w3, w4 _ H1.out, w5, w6, w7]
  exact ⟨rfl, by unfold Dr; simpa using hset.drewN _, grownBy_drewN (grownBy_setCell _ _ _ _) _⟩

set_option maxRecDepth 100000 in
set_option maxHeartbeats 1600000 in
theorem belowm_c (D s n : Nat) (w : World) (h : Dr w D s) (h1 : 1 ≤ n) (h2 : n ≤ 256) : Calls Tryd.prog 115 #[.pointer (some ⟨D, 0, none⟩), .int .i64 (n : Int)] w fun e w' => e = .returned (.tuple #[.int .i64 (bel s n : Int), .int .i64 0]) ∧ Dr w' D (nx s) ∧ w.grownBy w' (some D) := by
  have g1 : (1 : Int) ≤ (n : Int) := by omega
  have g2 : (n : Int) ≤ 256 := by omega
  go_enter Tryd.func115, Tryd.ntmps115
  go_wp2_with (first | (go_at_call 120; refine (made_c D s w h).mono ?_; rintro e w' ⟨rfl, rfl⟩) | (go_at_call 121; refine (next_c D s w h).mono ?_; rintro e w1 ⟨rfl, hd, hg⟩))
  go_ret2
  simp only [w9 s n h1 h2]
  exact ⟨rfl, hd, hg⟩
set_option maxRecDepth 100000 in
set_option maxHeartbeats 1600000 in
theorem below_c (D s n : Nat) (w : World) (h : Dr w D s) (h1 : 1 ≤ n) (h2 : n ≤ 256) : Calls Tryd.prog 102 #[.pointer (some ⟨D, 0, none⟩), .int .i64 (n : Int)] w fun e w' => e = .returned (.int .i64 (bel s n : Int)) ∧ Dr w' D (nx s) ∧ w.grownBy w' (some D) := by
  go_enter Tryd.func102, Tryd.ntmps102
  go_wp2_with (go_at_call 115; refine (belowm_c D s n w h h1 h2).mono ?_; rintro e w1 ⟨rfl, hd, hg⟩)
  go_ret
  exact ⟨rfl, hd, hg⟩
set_option maxRecDepth 100000 in
set_option maxHeartbeats 1600000 in
theorem chance_c (D s : Nat) (p : Int) (w : World) (h : Dr w D s) : Calls Tryd.prog 95 #[.pointer (some ⟨D, 0, none⟩), .int .i64 p] w fun e w' => e = .returned (.bool (decide ((bel s 256 : Int) < p))) ∧ Dr w' D (nx s) ∧ w.grownBy w' (some D) := by
  have hc := below_c D s 256 w h (by omega) (by omega)
  go_enter Tryd.func95, Tryd.ntmps95
  go_wp2_with (go_at_call 102; refine hc.mono ?_; rintro e w1 ⟨rfl, hd, hg⟩)
  go_ret
  exact ⟨rfl, hd, hg⟩

end Go.Proofs.YthdidjnhfkeokaaDoor
