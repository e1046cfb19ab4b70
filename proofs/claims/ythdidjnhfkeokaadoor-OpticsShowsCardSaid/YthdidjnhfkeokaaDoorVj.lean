/- Contract of what blind does. -/
import Derived.Test.YthdidjnhfkeokaaDoorVi
namespace Go.Proofs.YthdidjnhfkeokaaDoor
open Go.RowKit

theorem Bk.drew {w : World} {E base : Nat} {A : Option Addr} {N : List No} (h : Bk w E base A N) : Bk w.drew E base A N := by
  obtain ⟨n, c, h1, h2, h3⟩ := h
  exact ⟨n, c, h1.drew, h2.drew, h3⟩
theorem nil_hear (E : Nat) (w : World) : (nilAhead 302 136 (.pointer (some ⟨E, 0, none⟩)) "waveplate/optics.hear").run Tryd.prog w = .ok (some false) w := by kernel_rfl
theorem mth_hear (E : Nat) (w : World) : (method 302 136 (.pointer (some ⟨E, 0, none⟩)) "waveplate/optics.hear").run Tryd.prog w = .ok (138, .pointer (some ⟨E, 0, none⟩)) w := by kernel_rfl

set_option maxRecDepth 100000 in
set_option maxHeartbeats 3200000 in
theorem blind_c (k fr td a b : Int) (sl : Nat) (base X D E : Nat) (x : Li) (s : Nat) (N : List No) (w : World) (h : Sta w base X D E x s N) (g : Geo base X D E) (hN : N.length ≤ 900000) (hbase : base ≤ w.heap.size) :
    Calls Tryd.prog 101 #[.agg #[.int .i64 k, .int .i64 fr, .int .i64 td, .int .i64 a, .int .i64 b], .int .i64 sl, .pointer (some ⟨X, 0, none⟩), .pointer (some ⟨D, 0, none⟩), .iface 136 (.pointer (some ⟨E, 0, none⟩))] w
      (SAct base X D E (⟨0, a, b == 1, true⟩, N ++ [⟨sl, 3, a, b == 1⟩], s) w) := by
  obtain ⟨h1, h2, A, h3, h4⟩ := h
  have hlX := Blk.lt h1
  have hlD := Blk.lt h2
  have x1 := h1.alloc (.cells #[.int .i64 k, .int .i64 fr, .int .i64 td, .int .i64 a, .int .i64 b] 62)
  go_enter Tryd.func101, Tryd.ntmps101
  go_upto_region 2 with (refine wl_store (o := ⟨none, _, _, _, _, _⟩) rfl 144 _ _ rfl X #[.int .i64 0, .int .i64 a, .bool (b == 1), .bool true] rfl rfl 144 _ x1 (by kernel_rfl) rfl (by simp [Value.oneCell']) ?_; intro w2 hX2 hg2)
  have f2 : Fr (fun i => i = X) w w2 := ((Fr.refl _ w).alloc _).trans (Fr.of_grown (T := fun i => i = X) hg2 (fun k e => by injection e with e; exact e.symm)) (fun _ _ c => c)
  have d2 : Dr w2 D s := Blk.fr h2 f2 (by have := g.1; have := g.2.1; omega)
  have b2 : Bk w2 E base A N := h3.fr f2 (by have := g.1; have := g.2.2.1; omega) (fun q hq e => h4 (by rw [hq, e]))
  have hh := hear_c E base A N ⟨sl, 3, a, b == 1⟩ w2.drew b2.drew (by omega) (by have := f2.size; show base ≤ w2.heap.size; omega)
  have HK := hide (fun (e : Ending) (w' : World) (k : SHear E base A (N ++ [⟨sl, 3, a, b == 1⟩]) w2.drew e w') => Sta.hear (x := ⟨0, a, b == 1, true⟩) (w := w2.drew) hX2 d2 b2.drew h4 g k)
  have F2 : Fr (Tr base D E) w w2.drew := (f2.imp (fun i _ c => by subst c; exact Or.inl g.1)).drew
  have z1 := hX2.cell 1
  have z2 := hX2.cell 2
  simp only [List.getElem?_toArray, List.getElem?_cons_zero, List.getElem?_cons_succ] at z1 z2
  simp only at hh
  have HH := hide hh
  have hn := nil_hear E
  have hm := mth_hear E
  clear hh x1 h1 h2 h3 h4
  go_region_held3 (fun w' => w'.cell? ⟨X, 1, none⟩ = some (.int .i64 a) ∧ w'.cell? ⟨X, 2, none⟩ = some (.bool (b == 1))) (first | exact ⟨z1, z2⟩ | exact ⟨by simpa using Blk.cell hst.1 1, by simpa using Blk.cell hst.1 2⟩)
    (first | (go_at_call 138; refine HH.out.mono ?_; rintro e w3 hs; obtain ⟨rfl, hst, hfr⟩ := HK.out _ _ hs))
  go_end0
  exact ⟨rfl, hst, F2.tr hfr⟩
end Go.Proofs.YthdidjnhfkeokaaDoor
