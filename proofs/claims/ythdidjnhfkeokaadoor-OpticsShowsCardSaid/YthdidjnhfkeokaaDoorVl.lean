/- Contract of optics.resend. -/
import Derived.Test.YthdidjnhfkeokaaDoorVj
namespace Go.Proofs.YthdidjnhfkeokaaDoor
open Go.RowKit

theorem fr_D {w w1 : World} {X D : Nat} (g : w.grownBy w1 (some D)) : Fr (fun i => i = X ∨ i = D) w w1 := (Fr.refl _ w).chance g
set_option maxRecDepth 100000 in
set_option maxHeartbeats 3200000 in
theorem resend_none (k fr td a b : Int) (v : Value) (sl : Nat) (base X D E : Nat) (x : Li) (s : Nat) (N : List No) (w : World) (h : Sta w base X D E x s N) (g : Geo base X D E) (hx : x.bright = true ∨ x.ph = 0) :
    Calls Tryd.prog 100 #[.agg #[.int .i64 k, .int .i64 fr, .int .i64 td, .int .i64 a, .int .i64 b], .int .i64 sl, .pointer (some ⟨X, 0, none⟩), .pointer (some ⟨D, 0, none⟩), v] w
      (SAct base X D E (x, N, s) w) := by
  have h1 := h.alloc g (.cells #[.int .i64 k, .int .i64 fr, .int .i64 td, .int .i64 a, .int .i64 b] 62)
  have x0 := Blk.cell h1.1 0
  have x3 := Blk.cell h1.1 3
  simp only [List.getElem?_toArray, List.getElem?_cons_zero, List.getElem?_cons_succ] at x0 x3
  obtain ⟨ph, xb, xt, xr⟩ := x
  simp only at x0 x3
  cases xr
  · obtain rfl : ph = 0 := by
      rcases hx with hx | hx
      · cases hx
      · exact hx
    go_enter Tryd.func100, Tryd.ntmps100
    go_wp2
    go_end0
    exact ⟨rfl, h1, (Fr.refl _ _).alloc _⟩
  · go_enter Tryd.func100, Tryd.ntmps100
    go_wp2
    go_end0
    exact ⟨rfl, h1, (Fr.refl _ _).alloc _⟩
set_option maxRecDepth 100000 in
set_option maxHeartbeats 3200000 in
theorem resend_miss (k fr td a b xb : Int) (xt : Bool) (v : Value) (sl P : Nat) (base X D E : Nat) (s : Nat) (N : List No) (w : World) (h : Sta w base X D E ⟨P, xb, xt, false⟩ s N) (g : Geo base X D E) (hP : 0 < P) (hit : ¬ (bel s 256 : Int) < a) :
    Calls Tryd.prog 100 #[.agg #[.int .i64 k, .int .i64 fr, .int .i64 td, .int .i64 a, .int .i64 b], .int .i64 sl, .pointer (some ⟨X, 0, none⟩), .pointer (some ⟨D, 0, none⟩), v] w
      (SAct base X D E (⟨P, xb, xt, false⟩, N, nx s) w) := by
  have h1 := h.alloc g (.cells #[.int .i64 k, .int .i64 fr, .int .i64 td, .int .i64 a, .int .i64 b] 62)
  have hR := Blk.newAt w 62 #[.int .i64 k, .int .i64 fr, .int .i64 td, .int .i64 a, .int .i64 b] w.heap.size rfl
  have f1 := (Fr.refl (fun i => i = X ∨ i = D) w).alloc (.cells #[.int .i64 k, .int .i64 fr, .int .i64 td, .int .i64 a, .int .i64 b] 62)
  obtain ⟨W, hW⟩ : ∃ q, q = w.alloc (.cells #[.int .i64 k, .int .i64 fr, .int .i64 td, .int .i64 a, .int .i64 b] 62) := ⟨_, rfl⟩
  have x0 := Blk.cell h1.1 0
  have x3 := Blk.cell h1.1 3
  have r3 := hR.cell 3
  simp only [List.getElem?_toArray, List.getElem?_cons_zero, List.getElem?_cons_succ] at x0 x3 r3
  have hp1 : (0 : Int) < (P : Int) := by omega
  have hp2 : ((P : Int) == 0) = false := by simp; omega
  have hp3 : ¬ (P : Int) = 0 := by omega
  have hc := chance_c D s a _ h1.2.1
  simp only [decide_eq_false hit] at hc
  have HCH := hide hc
  clear hc hit hW
  go_enter Tryd.func100, Tryd.ntmps100
  go_wp2_with (go_at_call 95; refine HCH.out.mono ?_; rintro e w1 ⟨rfl, hD2, hg⟩)
  go_end0
  exact ⟨rfl, h1.quiet g (Blk.grown h1.1 hg (by have := g.1; have := g.2.1; simp; omega)) hD2 (fr_D hg), (f1.chance hg).quiet g⟩
set_option maxRecDepth 100000 in
set_option maxHeartbeats 3200000 in
theorem resend_same (k fr td a b xb : Int) (xt : Bool) (sl P : Nat) (base X D E : Nat) (s : Nat) (N : List No) (w : World) (h : Sta w base X D E ⟨P, xb, xt, false⟩ s N) (g : Geo base X D E) (hP : 0 < P) (hN : N.length ≤ 900000) (hbase : base ≤ w.heap.size) (hit : (bel s 256 : Int) < a) (hb : (bel (nx s) 2 : Int) = xb) :
    Calls Tryd.prog 100 #[.agg #[.int .i64 k, .int .i64 fr, .int .i64 td, .int .i64 a, .int .i64 b], .int .i64 sl, .pointer (some ⟨X, 0, none⟩), .pointer (some ⟨D, 0, none⟩), .iface 136 (.pointer (some ⟨E, 0, none⟩))] w
      (SAct base X D E (⟨1, (bel (nx s) 2 : Int), xt, false⟩, N ++ [⟨sl, 1, (bel (nx s) 2 : Int), xt⟩], nx (nx s)) w) := by
  have h1 := h.alloc g (.cells #[.int .i64 k, .int .i64 fr, .int .i64 td, .int .i64 a, .int .i64 b] 62)
  have hR := Blk.newAt w 62 #[.int .i64 k, .int .i64 fr, .int .i64 td, .int .i64 a, .int .i64 b] w.heap.size rfl
  have f1 := (Fr.refl (fun i => i = X ∨ i = D) w).alloc (.cells #[.int .i64 k, .int .i64 fr, .int .i64 td, .int .i64 a, .int .i64 b] 62)
  obtain ⟨W, hW⟩ : ∃ q, q = w.alloc (.cells #[.int .i64 k, .int .i64 fr, .int .i64 td, .int .i64 a, .int .i64 b] 62) := ⟨_, rfl⟩
  have x0 := Blk.cell h1.1 0
  have x3 := Blk.cell h1.1 3
  have r3 := hR.cell 3
  simp only [List.getElem?_toArray, List.getElem?_cons_zero, List.getElem?_cons_succ] at x0 x3 r3
  have hp1 : (0 : Int) < (P : Int) := by omega
  have hp2 : ((P : Int) == 0) = false := by simp; omega
  have hp3 : ¬ (P : Int) = 0 := by omega
  have hc := chance_c D s a _ h1.2.1
  simp only [decide_eq_true hit] at hc
  have HCH := hide hc
  clear hc hit hW
  go_enter Tryd.func100, Tryd.ntmps100
  go_upto_region 2 with (go_at_call 95; refine HCH.out.mono ?_; rintro e w1 ⟨rfl, hD2, hg⟩)
  have h2 := h1.quiet g (Blk.grown h1.1 hg (by have := g.1; have := g.2.1; simp; omega)) hD2 (fr_D hg)
  have f2 := (f1.chance hg).quiet g
  have hz2 : base ≤ w1.heap.size := by have := f2.size; omega
  clear h1 f1 x0 x3 r3 hR HCH hD2 hg hp1 hp2 hp3 h
  have hB := below_c D (nx s) 2 w1.drew h2.2.1 (by omega) (by omega)
  obtain ⟨bb, hbb⟩ : ∃ q : Int, q = (bel (nx s) 2 : Int) := ⟨_, rfl⟩
  rw [← hbb] at hB hb ⊢
  have HBB := hide hbb
  have HB := hide hB
  clear hB hbb
  have z1 := Blk.cell h2.1 1
  have z2 := Blk.cell h2.1 2
  simp only [List.getElem?_toArray, List.getElem?_cons_zero, List.getElem?_cons_succ] at z1 z2
  have hXD : some X ≠ some D := by have := g.1; have := g.2.1; simp; omega
  go_region_held3 (fun w' => w'.cell? ⟨X, 1, none⟩ = some (.int .i64 xb) ∧ w'.cell? ⟨X, 2, none⟩ = some (.bool xt)) (first | exact ⟨z1, z2⟩ | exact ⟨hg2.cell z1 hXD, hg2.cell z2 hXD⟩)
    (first | (go_at_call 102; refine HB.out.mono ?_; rintro e w2 ⟨rfl, hD3, hg2⟩))
  have k1 : liB w2 X _ := Blk.grown (w := w1.drew) (Blk.drew h2.1) hg2 hXD
  have h3 := h2.quiet g k1 hD3 ((Fr.refl (fun i => i = X ∨ i = D) w1).drew.chance hg2)
  have f3 : Fr (Tr base D E) w w2 := f2.tr (((Fr.refl (fun i => i = X ∨ i = D) w1).drew.chance hg2).quiet g)
  have hz3 : base ≤ w2.heap.size := by have := f3.size; omega
  have y1 := Blk.cell k1 1
  simp only [List.getElem?_toArray, List.getElem?_cons_zero, List.getElem?_cons_succ] at y1
  clear z1 z2 h2 f2 hD3 hg2 HB hz2
  have hm := mth_hear E
  subst hb
  obtain ⟨m1, m2, A, m3, m4⟩ := h3
  go_wp2_with (first | (refine wl_store (o := ⟨none, _, _, _, _, _⟩) rfl 144 _ _ rfl X #[.int .i64 1, .int .i64 bb, .bool xt, .bool false] rfl rfl 144 _ k1 (by kernel_rfl) rfl (by simp [Value.oneCell']) ?_; intro w4 hX4 hg4; have d4 : Dr w4 D (nx (nx s)) := Blk.grown m2 hg4 (fun e => hXD e.symm); have b4 : Bk w4 E base A N := m3.fr (Fr.of_grown (T := fun i => i = X) hg4 (fun k e => by injection e with e; exact e.symm)) (by have := g.1; have := g.2.2.1; omega) (fun q hq e => m4 (by rw [hq, e])); have HH := hide (hear_c E base A N ⟨sl, 1, bb, xt⟩ w4 b4 (by omega) (by have := hg4.size; omega)); have HK := hide (fun (e : Ending) (w' : World) (k : SHear E base A (N ++ [⟨sl, 1, bb, xt⟩]) w4 e w') => Sta.hear (x := ⟨1, bb, xt, false⟩) hX4 d4 b4 m4 g k)) | (go_at_call 138; refine HH.out.mono ?_; rintro e w5 hs; obtain ⟨rfl, hst, hfr⟩ := HK.out _ _ hs))
  go_end0
  have e1 := HBB.out
  rw [e1] at hst
  exact ⟨rfl, hst, (f3.tr ((Fr.of_grown (T := fun i => i = X) hg4 (fun k e => by injection e with e; exact e.symm)).imp (fun i _ c => by subst c; exact Or.inl g.1))).tr hfr⟩
set_option maxRecDepth 100000 in
set_option maxHeartbeats 3200000 in
theorem resend_diff (k fr td a b xb : Int) (xt : Bool) (sl P : Nat) (base X D E : Nat) (s : Nat) (N : List No) (w : World) (h : Sta w base X D E ⟨P, xb, xt, false⟩ s N) (g : Geo base X D E) (hP : 0 < P) (hN : N.length ≤ 900000) (hbase : base ≤ w.heap.size) (hit : (bel s 256 : Int) < a) (hb : ¬ (bel (nx s) 2 : Int) = xb) :
    Calls Tryd.prog 100 #[.agg #[.int .i64 k, .int .i64 fr, .int .i64 td, .int .i64 a, .int .i64 b], .int .i64 sl, .pointer (some ⟨X, 0, none⟩), .pointer (some ⟨D, 0, none⟩), .iface 136 (.pointer (some ⟨E, 0, none⟩))] w
      (SAct base X D E (⟨1, (bel (nx s) 2 : Int), ((bel (nx (nx s)) 2 : Int) == 1), false⟩, N ++ [⟨sl, 1, (bel (nx s) 2 : Int), ((bel (nx (nx s)) 2 : Int) == 1)⟩], nx (nx (nx s))) w) := by
  have h1 := h.alloc g (.cells #[.int .i64 k, .int .i64 fr, .int .i64 td, .int .i64 a, .int .i64 b] 62)
  have hR := Blk.newAt w 62 #[.int .i64 k, .int .i64 fr, .int .i64 td, .int .i64 a, .int .i64 b] w.heap.size rfl
  have f1 := (Fr.refl (fun i => i = X ∨ i = D) w).alloc (.cells #[.int .i64 k, .int .i64 fr, .int .i64 td, .int .i64 a, .int .i64 b] 62)
  obtain ⟨W, hW⟩ : ∃ q, q = w.alloc (.cells #[.int .i64 k, .int .i64 fr, .int .i64 td, .int .i64 a, .int .i64 b] 62) := ⟨_, rfl⟩
  have x0 := Blk.cell h1.1 0
  have x3 := Blk.cell h1.1 3
  have r3 := hR.cell 3
  simp only [List.getElem?_toArray, List.getElem?_cons_zero, List.getElem?_cons_succ] at x0 x3 r3
  have hp1 : (0 : Int) < (P : Int) := by omega
  have hp2 : ((P : Int) == 0) = false := by simp; omega
  have hp3 : ¬ (P : Int) = 0 := by omega
  have hc := chance_c D s a _ h1.2.1
  simp only [decide_eq_true hit] at hc
  have HCH := hide hc
  clear hc hit hW
  go_enter Tryd.func100, Tryd.ntmps100
  go_upto_region 2 with (go_at_call 95; refine HCH.out.mono ?_; rintro e w1 ⟨rfl, hD2, hg⟩)
  have h2 := h1.quiet g (Blk.grown h1.1 hg (by have := g.1; have := g.2.1; simp; omega)) hD2 (fr_D hg)
  have f2 := (f1.chance hg).quiet g
  have hz2 : base ≤ w1.heap.size := by have := f2.size; omega
  clear h1 f1 x0 x3 r3 hR HCH hD2 hg hp1 hp2 hp3 h
  have hB := below_c D (nx s) 2 w1.drew h2.2.1 (by omega) (by omega)
  obtain ⟨bb, hbb⟩ : ∃ q : Int, q = (bel (nx s) 2 : Int) := ⟨_, rfl⟩
  rw [← hbb] at hB hb ⊢
  have HBB := hide hbb
  have HB := hide hB
  clear hB hbb
  have z1 := Blk.cell h2.1 1
  have z2 := Blk.cell h2.1 2
  simp only [List.getElem?_toArray, List.getElem?_cons_zero, List.getElem?_cons_succ] at z1 z2
  have hXD : some X ≠ some D := by have := g.1; have := g.2.1; simp; omega
  go_region_held3 (fun w' => w'.cell? ⟨X, 1, none⟩ = some (.int .i64 xb) ∧ w'.cell? ⟨X, 2, none⟩ = some (.bool xt)) (first | exact ⟨z1, z2⟩ | exact ⟨hg2.cell z1 hXD, hg2.cell z2 hXD⟩)
    (first | (go_at_call 102; refine HB.out.mono ?_; rintro e w2 ⟨rfl, hD3, hg2⟩))
  have k1 : liB w2 X _ := Blk.grown (w := w1.drew) (Blk.drew h2.1) hg2 hXD
  have h3 := h2.quiet g k1 hD3 ((Fr.refl (fun i => i = X ∨ i = D) w1).drew.chance hg2)
  have f3 : Fr (Tr base D E) w w2 := f2.tr (((Fr.refl (fun i => i = X ∨ i = D) w1).drew.chance hg2).quiet g)
  have hz3 : base ≤ w2.heap.size := by have := f3.size; omega
  have y1 := Blk.cell k1 1
  simp only [List.getElem?_toArray, List.getElem?_cons_zero, List.getElem?_cons_succ] at y1
  clear z1 z2 h2 f2 hD3 hg2 HB hz2
  have hm := mth_hear E
  have hB := below_c D (nx (nx s)) 2 w2 h3.2.1 (by omega) (by omega)
  obtain ⟨cc, hcc⟩ : ∃ q : Int, q = (bel (nx (nx s)) 2 : Int) := ⟨_, rfl⟩
  rw [← hcc] at hB ⊢
  have HCC := hide hcc
  have HB := hide hB
  clear hB hcc
  obtain ⟨m1, m2, A, m3, m4⟩ := h3
  go_wp2_with (first | (go_at_call 102; refine HB.out.mono ?_; rintro e w3 ⟨rfl, n2, hg3⟩; have n1 : liB w3 X _ := Blk.grown k1 hg3 hXD; have n3 : Bk w3 E base A N := m3.fr (fr_D (X := X) hg3) (by have := g.1; have := g.2.2.1; have := g.2.2.2; omega) (fun q hq e => by have := (m3.base q hq).1; rcases e with e | e; exact m4 (by rw [hq, e]); have := g.2.1; omega); have y5 := Blk.cell n1 1; simp only [List.getElem?_toArray, List.getElem?_cons_zero, List.getElem?_cons_succ] at y5) | (refine wl_store (o := ⟨none, _, _, _, _, _⟩) rfl 144 _ _ rfl X #[.int .i64 1, .int .i64 bb, .bool (cc == 1), .bool false] rfl rfl 144 _ n1 (by kernel_rfl) rfl (by simp [Value.oneCell']) ?_; intro w4 hX4 hg4; have d4 : Dr w4 D (nx (nx (nx s))) := Blk.grown n2 hg4 (fun e => hXD e.symm); have b4 : Bk w4 E base A N := n3.fr (Fr.of_grown (T := fun i => i = X) hg4 (fun k e => by injection e with e; exact e.symm)) (by have := g.1; have := g.2.2.1; omega) (fun q hq e => m4 (by rw [hq, e])); have HH := hide (hear_c E base A N ⟨sl, 1, bb, cc == 1⟩ w4 b4 (by omega) (by have := hg4.size; have := hg3.size; omega)); have HK := hide (fun (e : Ending) (w' : World) (k : SHear E base A (N ++ [⟨sl, 1, bb, cc == 1⟩]) w4 e w') => Sta.hear (x := ⟨1, bb, cc == 1, false⟩) hX4 d4 b4 m4 g k)) | (go_at_call 138; refine HH.out.mono ?_; rintro e w5 hs; obtain ⟨rfl, hst, hfr⟩ := HK.out _ _ hs))
  go_end0
  have e1 := HBB.out
  have e2 := HCC.out
  rw [e1, e2] at hst
  exact ⟨rfl, hst, ((f3.tr ((fr_D (X := X) hg3).quiet g)).tr ((Fr.of_grown (T := fun i => i = X) hg4 (fun k e => by injection e with e; exact e.symm)).imp (fun i _ c => by subst c; exact Or.inl g.1))).tr hfr⟩
end Go.Proofs.YthdidjnhfkeokaaDoor
