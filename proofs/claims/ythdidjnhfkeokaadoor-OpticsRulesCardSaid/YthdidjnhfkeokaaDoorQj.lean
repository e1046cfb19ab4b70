/- Contract of optics.numbers: pointers to the numbers of an arrangement. -/
import Derived.Test.YthdidjnhfkeokaaDoorQi
namespace Go.Proofs.YthdidjnhfkeokaaDoor
open Go.RowKit

/-- Pointers into block g. -/
def ePtr (g : Nat) : Enc Nat := ⟨1, fun i => [.pointer (some ⟨g, i, none⟩)], fun _ => rfl, by simp [Value.oneCell'], Nat.one_pos⟩
theorem info_ptr : (Tryd.prog.info? 75).map (fun i => (i.zero, i.size, i.bytes)) = some (some (.pointer none), 1, 8) := by kernel_rfl
theorem range_snoc (s n : Nat) : List.range' s n ++ [s + n] = List.range' s (n + 1) := by rw [List.range'_concat]; simp

set_option maxRecDepth 100000 in
set_option maxHeartbeats 3200000 in
theorem numbers_c (g : Nat) (w : World) : Calls Tryd.prog 32 #[.pointer (some ⟨g, 0, none⟩)] w fun e w' =>
    ∃ A c, e = .returned (.slice A 17 c) ∧ Ow (ePtr g) w' w.heap.size 75 A 17 c (List.range' 1 17) ∧ Below w.heap.size w w' := by
  go_enter Tryd.func32, Tryd.ntmps32
  go_wp2
  go_loopw [7, 3] (fun iv av wr => ∃ (k : Nat) (A : Option Addr) (c : Nat), k ≤ 3 ∧ iv = .int .i64 k ∧ av = .slice A k c ∧ Ow (ePtr g) wr w.heap.size 75 A k c (List.range' 1 k) ∧ Below w.heap.size w wr) (fun iv _ _ => 3 - (intOf iv).toNat)
  case atStart => exact ⟨0, none, 0, by omega, rfl, rfl, Ow.nil _ _ _, Below.refl _ _⟩
  case round =>
    obtain ⟨k, A, c, hk, rfl, rfl, o1, hbw⟩ := hrel
    have hz := hbw.size
    by_cases hlt : k < 3
    · have hk0 : (0 : Int) ≤ (k : Int) := by omega
      have hk1 : (k : Int) < 3 := by omega
      go_wp2_with (at_builtin; refine wl_app (ePtr g) _ rfl (.tmp 10) (.tmp 16) _ rfl w.heap.size 75 (.pointer none) 8 Tryd.underlying72 info_ptr rfl (by omega) _ _ _ _ (by rfl) (o1.alloc _) _ 1 1 [1 + k] (by rfl) _ (Rd.newAt _ _ (1 + k) _ rfl _ (by simp)) (by omega) (by simp; omega) ?_; intro A3 c3 w3 o3 hg3 hA3)
      go_roundw
      case rel => exact ⟨k + 1, A3, c3, by omega, by go_num, rfl, by rw [← range_snoc]; exact o3, below_app (hbw.alloc hz _) (o1.alloc _) hg3 (Nat.le_refl _) (Nat.le_refl _)⟩
      case measure => simp [intOf] <;> omega
    · obtain rfl : k = 3 := by omega
      clear hlt hk
      go_wp2
      go_loopw [19, 3] (fun iv av wr => ∃ (k : Nat) (A : Option Addr) (c : Nat), k ≤ 3 ∧ iv = .int .i64 k ∧ av = .slice A (3 + 4 * k) c ∧ Ow (ePtr g) wr w.heap.size 75 A (3 + 4 * k) c (List.range' 1 (3 + 4 * k)) ∧ Below w.heap.size w wr) (fun iv _ _ => 3 - (intOf iv).toNat)
      case atStart => exact ⟨0, _, _, by omega, rfl, rfl, o1, hbw⟩
      case round =>
        clear o1 hbw hz
        obtain ⟨k, A, c, hk, rfl, rfl, o1, hbw⟩ := hrel
        have hz := hbw.size
        by_cases hlt : k < 3
        · have hk0 : (0 : Int) ≤ (k : Int) := by omega
          have hk1 : (k : Int) < 3 := by omega
          go_wp2
          obtain ⟨wo, hwo⟩ : ∃ wo : World, wo = wr := ⟨_, rfl⟩
          clear hwo
          go_loopw [22, 3] (fun iv av wr => ∃ (j : Nat) (A : Option Addr) (c : Nat), j ≤ 4 ∧ iv = .int .i64 j ∧ av = .slice A (3 + 4 * k + j) c ∧ Ow (ePtr g) wr w.heap.size 75 A (3 + 4 * k + j) c (List.range' 1 (3 + 4 * k + j)) ∧ Below w.heap.size w wr) (fun iv _ _ => 4 - (intOf iv).toNat)
          case atStart => exact ⟨0, _, _, by omega, rfl, rfl, o1, hbw⟩
          case round =>
            clear o1 hbw hz
            obtain ⟨j, A, c, hj, rfl, rfl, o1, hbw⟩ := hrel
            have hz := hbw.size
            by_cases hlt2 : j < 4
            · have hj0 : (0 : Int) ≤ (j : Int) := by omega
              have hj1 : (j : Int) < 4 := by omega
              go_wp2_with (at_builtin; refine wl_app (ePtr g) _ rfl (.tmp 25) (.tmp 33) _ rfl w.heap.size 75 (.pointer none) 8 Tryd.underlying72 info_ptr rfl (by omega) _ _ _ _ (by rfl) (o1.alloc _) _ 1 1 [4 + k * 4 + j] (by rfl) _ (Rd.newAt _ _ (4 + k * 4 + j) _ rfl _ (by simp)) (by omega) (by simp; omega) ?_; intro A3 c3 w3 o3 hg3 hA3)
              go_roundw
              case rel => first | exact ⟨j + 1, A3, c3, by omega, by go_num, rfl, by rw [show 3 + 4 * k + (j + 1) = 3 + 4 * k + j + 1 by omega, ← range_snoc, show 1 + (3 + 4 * k + j) = 4 + k * 4 + j by omega]; exact o3, below_app (hbw.alloc hz _) (o1.alloc _) hg3 (Nat.le_refl _) (Nat.le_refl _)⟩ | ((repeat apply Exists.intro); exact ⟨⟨j + 1, A3, c3, by omega, by go_num, rfl, by rw [show 3 + 4 * k + (j + 1) = 3 + 4 * k + j + 1 by omega, ← range_snoc, show 1 + (3 + 4 * k + j) = 4 + k * 4 + j by omega]; exact o3, below_app (hbw.alloc hz _) (o1.alloc _) hg3 (Nat.le_refl _) (Nat.le_refl _)⟩, rfl⟩)
              case measure => simp [intOf] <;> omega
            · obtain rfl : j = 4 := by omega
              go_wp2
              go_roundw
              case rel => exact ⟨k + 1, A, c, by omega, by go_num, rfl, o1, hbw⟩
              case measure => simp [intOf] <;> omega
        · obtain rfl : k = 3 := by omega
          go_wp2
          have oW := (o1.alloc (.cells #[.pointer (some ⟨g, 16, none⟩), .pointer (some ⟨g, 17, none⟩)] 75)).drew
          have hbW := (hbw.alloc hz (.cells #[.pointer (some ⟨g, 16, none⟩), .pointer (some ⟨g, 17, none⟩)] 75)).drew
          go_region_held3 (fun w' => Below w.heap.size w w') (first | exact hbw | exact hbw.drew | exact hbW | exact below_app hbW oW hg3 (Nat.le_refl _) (Nat.le_refl _))
            ((refine step_app (ePtr g) _ (by rfl) (.tmp 37) (.tmp 44) _ (by rfl) w.heap.size 75 (.pointer none) 8 Tryd.underlying72 info_ptr rfl (by omega) _ _ _ _ (by rfl) oW _ 2 2 [16, 17] (by rfl) _ (Rd.many (e := ePtr g) wr _ [16, 17] #[.pointer (some ⟨g, 16, none⟩), .pointer (some ⟨g, 17, none⟩)] rfl 2 rfl (by omega) wr.heap.size rfl).drew (by omega) (by simp; omega) ?_; intro A3 c3 w3 o3 hg3 hA3))
          go_wp2
          go_ret
          exact ⟨_, _, rfl, o3, below_app hbW oW hg3 (Nat.le_refl _) (Nat.le_refl _)⟩
end Go.Proofs.YthdidjnhfkeokaaDoor
