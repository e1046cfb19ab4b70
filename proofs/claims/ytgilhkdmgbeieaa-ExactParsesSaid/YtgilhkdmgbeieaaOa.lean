/- Contracts of exact's Of. -/
import Derived.Test.YtgilhkdmgbeieaaWh
namespace Go.Proofs.Ytgilhkdmgbeieaa
open Go.RowKit

theorem Sl.pair (w : World) (E : TypeId) (k : IntKind) (x y : Nat) {v u : Value} (hv : v = .int k x) (hu : u = .int k y) : Sl (w.alloc (.cells #[v, u] E)) (w.heap.size + 1) k (some ⟨w.heap.size, 0, none⟩) 2 2 [x, y] := by
  subst hv hu
  refine ⟨rfl, Nat.le_refl _, by omega, fun _ => ⟨w.heap.size, 0, rfl, by omega, fun j hj => ?_⟩⟩
  rw [World.cell?_alloc_at _ _ _ _ rfl]
  rcases (show j = 0 ∨ j = 1 by omega) with rfl | rfl <;> rfl

set_option maxHeartbeats 400000 in
theorem of_c (N : Nat) (w : World) (hN : N < 18446744073709551616) : Calls Try.prog 25 #[.int .u64 N] w (NatR w N) := by
  go_enter Try.func25, Try.ntmps25
  go_wp2_with fail
  have hs := Sl.pair w 58 .u32 (N % 4294967296) (N / 4294967296) (v := .int .u32 ((N : Int) % 4294967296)) (u := .int .u32 ((N : Int) / 4294967296)) rfl rfl
  have hd : Digs 4294967296 [N % 4294967296, N / 4294967296] := fun x hx => by
    simp at hx
    rcases hx with rfl | rfl <;> omega
  have hb := (Below.refl w.heap.size w).alloc (Nat.le_refl _) (.cells #[.int .u32 ((N : Int) % 4294967296), .int .u32 ((N : Int) / 4294967296)] 58)
  have hc := clone_c _ _ _ _ _ _ hs (by simp) hd (by omega)
  rw [show val 4294967296 [N % 4294967296, N / 4294967296] = N by simp only [val]; omega] at hc
  refine hc.mono ?_
  rintro e w1 ⟨g, n, c, l, rfl, ho, hn, hb1⟩
  go_wp2
  go_ret
  exact ⟨g, n, c, l, rfl, ho.mono hb.size, hn, hb.trans (hb1.mono hb.size)⟩
end Go.Proofs.Ytgilhkdmgbeieaa
