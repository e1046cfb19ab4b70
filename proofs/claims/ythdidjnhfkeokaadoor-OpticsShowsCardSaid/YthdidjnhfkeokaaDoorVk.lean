/- Contract of what split does. -/
import Derived.Test.YthdidjnhfkeokaaDoorVj
namespace Go.Proofs.YthdidjnhfkeokaaDoor
open Go.RowKit

set_option maxRecDepth 100000 in
set_option maxHeartbeats 3200000 in
theorem split_yes (k fr td a b xb : Int) (xt : Bool) (sl P : Nat) (base X D E : Nat) (s : Nat) (N : List No) (w : World) (h : Sta w base X D E ⟨P, xb, xt, false⟩ s N) (g : Geo base X D E) (hN : N.length ≤ 900000) (hbase : base ≤ w.heap.size) (hP : 2 ≤ P) (hP3 : P ≤ 3) :
    Calls Tryd.prog 99 #[.agg #[.int .i64 k, .int .i64 fr, .int .i64 td, .int .i64 a, .int .i64 b], .int .i64 sl, .pointer (some ⟨X, 0, none⟩), .pointer (some ⟨D, 0, none⟩), .iface 136 (.pointer (some ⟨E, 0, none⟩))] w
      (SAct base X D E (⟨P - 1, xb, xt, false⟩, N ++ [⟨sl, 2, xb, xt⟩], s) w) := by
  obtain ⟨h1, h2, A, h3, h4⟩ := h
  have hlX := Blk.lt h1
  have hlD := Blk.lt h2
  have x1 := h1.alloc (.cells #[.int .i64 k, .int .i64 fr, .int .i64 td, .int .i64 a, .int .i64 b] 62)
  have x0 := x1.cell 0
  have x3 := x1.cell 3
  have xf := x1.frozen 0
  simp only [List.getElem?_toArray, List.getElem?_cons_zero, List.getElem?_cons_succ] at x0 x3
  have hp1 : (2 : Int) ≤ (P : Int) := by omega
  have hp2 : (P : Int) ≤ 3 := by omega
  go_enter Tryd.func99, Tryd.ntmps99
  go_upto_region 3 with fail
  have hX2 : liB ((w.setCell ⟨X, 0, none⟩ (.int .i64 ((P : Int) - 1))).alloc (.cells #[.int .i64 k, .int .i64 fr, .int .i64 td, .int .i64 a, .int .i64 b] 62)) X ⟨P - 1, xb, xt, false⟩ := by
    have := (Blk.set_ h1 0 (.int .i64 ((P : Int) - 1))).alloc (.cells #[.int .i64 k, .int .i64 fr, .int .i64 td, .int .i64 a, .int .i64 b] 62)
    simpa [liB] using this
  have f2 : Fr (fun i => i = X) w ((w.setCell ⟨X, 0, none⟩ (.int .i64 ((P : Int) - 1))).alloc (.cells #[.int .i64 k, .int .i64 fr, .int .i64 td, .int .i64 a, .int .i64 b] 62)) := ((Fr.refl (fun i => i = X) w).setCell (p := ⟨X, 0, none⟩) (fun _ => rfl) _).alloc _
  obtain ⟨w2, hw2⟩ : ∃ q, q = (w.setCell ⟨X, 0, none⟩ (.int .i64 ((P : Int) - 1))).alloc (.cells #[.int .i64 k, .int .i64 fr, .int .i64 td, .int .i64 a, .int .i64 b] 62) := ⟨_, rfl⟩
  rw [← hw2] at hX2 f2 ⊢
  clear hw2 x0 x3 xf
  have d2 : Dr w2 D s := Blk.fr h2 f2 (by have := g.1; have := g.2.1; omega)
  have b2 : Bk w2 E base A N := h3.fr f2 (by have := g.1; have := g.2.2.1; omega) (fun q hq e => h4 (by rw [hq, e]))
  have hh := hear_c E base A N ⟨sl, 2, xb, xt⟩ w2.drew b2.drew (by omega) (by have := f2.size; show base ≤ w2.heap.size; omega)
  have HK := hide (fun (e : Ending) (w' : World) (k : SHear E base A (N ++ [⟨sl, 2, xb, xt⟩]) w2.drew e w') => Sta.hear (x := ⟨P - 1, xb, xt, false⟩) (w := w2.drew) hX2 d2 b2.drew h4 g k)
  have F2 : Fr (Tr base D E) w w2.drew := (f2.imp (fun i _ c => by subst c; exact Or.inl g.1)).drew
  have z1 := Blk.cell hX2 1
  have z2 := Blk.cell hX2 2
  simp only [List.getElem?_toArray, List.getElem?_cons_zero, List.getElem?_cons_succ] at z1 z2
  simp only at hh
  have HH := hide hh
  have hn := nil_hear E
  have hm := mth_hear E
  clear hh x1 h1 h2 h3 h4
  go_region_held3 (fun w' => w'.cell? ⟨X, 1, none⟩ = some (.int .i64 xb) ∧ w'.cell? ⟨X, 2, none⟩ = some (.bool xt)) (first | exact ⟨z1, z2⟩ | exact ⟨by simpa using Blk.cell hst.1 1, by simpa using Blk.cell hst.1 2⟩)
    (first | (go_at_call 138; refine HH.out.mono ?_; rintro e w3 hs; obtain ⟨rfl, hst, hfr⟩ := HK.out _ _ hs))
  go_end0
  exact ⟨rfl, hst, F2.tr hfr⟩

set_option maxRecDepth 100000 in
set_option maxHeartbeats 3200000 in
theorem split_no (k fr td a b : Int) (v : Value) (sl : Nat) (base X D E : Nat) (x : Li) (s : Nat) (N : List No) (w : World) (h : Sta w base X D E x s N) (g : Geo base X D E) (hx : x.bright = true ∨ x.ph < 2) :
    Calls Tryd.prog 99 #[.agg #[.int .i64 k, .int .i64 fr, .int .i64 td, .int .i64 a, .int .i64 b], .int .i64 sl, .pointer (some ⟨X, 0, none⟩), .pointer (some ⟨D, 0, none⟩), v] w
      (SAct base X D E (x, N, s) w) := by
  have h1 := h.alloc g (.cells #[.int .i64 k, .int .i64 fr, .int .i64 td, .int .i64 a, .int .i64 b] 62)
  have x0 := Blk.cell h1.1 0
  have x3 := Blk.cell h1.1 3
  simp only [List.getElem?_toArray, List.getElem?_cons_zero, List.getElem?_cons_succ] at x0 x3
  obtain ⟨ph, xb, xt, xr⟩ := x
  simp only at x0 x3
  cases xr
  · have hp : ¬ (2 : Int) ≤ ph := by
      rcases hx with hx | hx
      · cases hx
      · simp only at hx; omega
    have hp2 : decide ((2 : Int) ≤ ph) = false := by simpa using hp
    clear hx
    go_enter Tryd.func99, Tryd.ntmps99
    go_wp2
    go_end0
    exact ⟨rfl, h1, (Fr.refl _ _).alloc _⟩
  · clear hx
    go_enter Tryd.func99, Tryd.ntmps99
    go_wp2
    go_end0
    exact ⟨rfl, h1, (Fr.refl _ _).alloc _⟩
end Go.Proofs.YthdidjnhfkeokaaDoor
