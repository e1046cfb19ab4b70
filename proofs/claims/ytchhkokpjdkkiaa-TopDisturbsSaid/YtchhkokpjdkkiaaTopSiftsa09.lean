/- Contract of what split does. Contract of optics.resend. What the function of a valid rule does, whatever its kind. -/
import Derived.Test.YtchhkokpjdkkiaaTopSiftsa08
import Derived.Test.YtchhkokpjdkkiaaTopSiftsa07
namespace Go.Proofs.Ytchhkokpjdkkiaa
open Go.RowKit

set_option maxRecDepth 100000 in
set_option maxHeartbeats 3200000 in
theorem split_yes (k fr td a b xb : Int) (xt : Bool) (sl P : Nat) (base X D E : Nat) (s : Nat) (N : List No) (w : World) (h : Sta w base X D E ⟨P, xb, xt, false⟩ s N) (g : Geo base X D E) (hN : N.length ≤ 900000) (hbase : base ≤ w.heap.size) (hP : 2 ≤ P) (hP3 : P ≤ 3) :
    Calls Try.prog 103 #[.agg #[.int .i64 k, .int .i64 fr, .int .i64 td, .int .i64 a, .int .i64 b], .int .i64 sl, .pointer (some ⟨X, 0, none⟩), .pointer (some ⟨D, 0, none⟩), .iface 157 (.pointer (some ⟨E, 0, none⟩))] w
      (SAct base X D E (⟨P - 1, xb, xt, false⟩, N ++ [⟨sl, 2, xb, xt⟩], s) w) := by
  obtain ⟨h1, h2, A, h3, h4⟩ := h
  have hlX := Blk.lt h1
  have hlD := Blk.lt h2
  have x1 := h1.alloc (.cells #[.int .i64 k, .int .i64 fr, .int .i64 td, .int .i64 a, .int .i64 b] 108)
  have x0 := x1.cell 0
  have x3 := x1.cell 3
  have xf := x1.frozen 0
  simp only [List.getElem?_toArray, List.getElem?_cons_zero, List.getElem?_cons_succ] at x0 x3
  have hp1 : (2 : Int) ≤ (P : Int) := by omega
  have hp2 : (P : Int) ≤ 3 := by omega
  go_enter Try.func103, Try.ntmps103
  go_upto_region 3 with fail
  have hX2 : liB ((w.setCell ⟨X, 0, none⟩ (.int .i64 ((P : Int) - 1))).alloc (.cells #[.int .i64 k, .int .i64 fr, .int .i64 td, .int .i64 a, .int .i64 b] 108)) X ⟨P - 1, xb, xt, false⟩ := by
    have := (Blk.set_ h1 0 (.int .i64 ((P : Int) - 1))).alloc (.cells #[.int .i64 k, .int .i64 fr, .int .i64 td, .int .i64 a, .int .i64 b] 108)
    simpa [liB] using this
  have f2 : Fr (fun i => i = X) w ((w.setCell ⟨X, 0, none⟩ (.int .i64 ((P : Int) - 1))).alloc (.cells #[.int .i64 k, .int .i64 fr, .int .i64 td, .int .i64 a, .int .i64 b] 108)) := ((Fr.refl (fun i => i = X) w).setCell (p := ⟨X, 0, none⟩) (fun _ => rfl) _).alloc _
  obtain ⟨w2, hw2⟩ : ∃ q, q = (w.setCell ⟨X, 0, none⟩ (.int .i64 ((P : Int) - 1))).alloc (.cells #[.int .i64 k, .int .i64 fr, .int .i64 td, .int .i64 a, .int .i64 b] 108) := ⟨_, rfl⟩
  rw [← hw2] at hX2 f2 ⊢
  clear hw2 x0 x3 xf
  have d2 : Dr w2 D s := Blk.fr h2 f2 (by have := g.1; have := g.2.1; omega)
  have b2 : Bk w2 E base A N := h3.fr f2 (by have := g.1; have := g.2.2.1; omega) (fun q hq e => h4 (by rw [hq, e]))
  have hh := hear_c E base A N ⟨sl, 2, xb, xt⟩ w2.drew b2.drew (by omega) (by have := f2.size; show base ≤ w2.heap.size; omega)
  have HK := hide (fun (e : Ending) (w' : World) (k : SHear E base A (N ++ [⟨sl, 2, xb, xt⟩]) w2.drew e w') => Sta.hear (x := ⟨P - 1, xb, xt, false⟩) (w := w2.drew) hX2 d2 b2.drew h4 g k)
  have F2 : Fr (Tr base D E) w w2.drew := (f2.imp (fun i _ c => by subst c; exact Or.inl g.1)).drew
  have z1 := Blk.cell hX2 1
  have z2 := Blk.cell hX2 2
  simp only [List.getElem?_toArray, List.getElem?_cons_zero, List.getElem?_cons_succ] at z1 z2
  simp only at hh
  have HH := hide hh
  have hn := nil_hear E
  have hm := mth_hear E
  clear hh x1 h1 h2 h3 h4
  go_region_held3 (fun w' => w'.cell? ⟨X, 1, none⟩ = some (.int .i64 xb) ∧ w'.cell? ⟨X, 2, none⟩ = some (.bool xt)) (first | exact ⟨z1, z2⟩ | exact ⟨by simpa using Blk.cell hst.1 1, by simpa using Blk.cell hst.1 2⟩)
    (first | (go_at_call 152; refine HH.out.mono ?_; rintro e w3 hs; obtain ⟨rfl, hst, hfr⟩ := HK.out _ _ hs))
  go_end0
  exact ⟨rfl, hst, F2.tr hfr⟩

set_option maxRecDepth 100000 in
set_option maxHeartbeats 3200000 in
theorem split_no (k fr td a b : Int) (v : Value) (sl : Nat) (base X D E : Nat) (x : Li) (s : Nat) (N : List No) (w : World) (h : Sta w base X D E x s N) (g : Geo base X D E) (hx : x.bright = true ∨ x.ph < 2) :
    Calls Try.prog 103 #[.agg #[.int .i64 k, .int .i64 fr, .int .i64 td, .int .i64 a, .int .i64 b], .int .i64 sl, .pointer (some ⟨X, 0, none⟩), .pointer (some ⟨D, 0, none⟩), v] w
      (SAct base X D E (x, N, s) w) := by
  have h1 := h.alloc g (.cells #[.int .i64 k, .int .i64 fr, .int .i64 td, .int .i64 a, .int .i64 b] 108)
  have x0 := Blk.cell h1.1 0
  have x3 := Blk.cell h1.1 3
  simp only [List.getElem?_toArray, List.getElem?_cons_zero, List.getElem?_cons_succ] at x0 x3
  obtain ⟨ph, xb, xt, xr⟩ := x
  simp only at x0 x3
  cases xr
  · have hp : ¬ (2 : Int) ≤ ph := by
      rcases hx with hx | hx
      · cases hx
      · simp only at hx; omega
    have hp2 : decide ((2 : Int) ≤ ph) = false := by simpa using hp
    clear hx
    go_enter Try.func103, Try.ntmps103
    go_wp2
    go_end0
    exact ⟨rfl, h1, (Fr.refl _ _).alloc _⟩
  · clear hx
    go_enter Try.func103, Try.ntmps103
    go_wp2
    go_end0
    exact ⟨rfl, h1, (Fr.refl _ _).alloc _⟩
end Go.Proofs.Ytchhkokpjdkkiaa

namespace Go.Proofs.Ytchhkokpjdkkiaa
open Go.RowKit

theorem fr_D {w w1 : World} {X D : Nat} (g : w.grownBy w1 (some D)) : Fr (fun i => i = X ∨ i = D) w w1 := (Fr.refl _ w).chance g
set_option maxRecDepth 100000 in
set_option maxHeartbeats 3200000 in
theorem resend_none (k fr td a b : Int) (v : Value) (sl : Nat) (base X D E : Nat) (x : Li) (s : Nat) (N : List No) (w : World) (h : Sta w base X D E x s N) (g : Geo base X D E) (hx : x.bright = true ∨ x.ph = 0) :
    Calls Try.prog 104 #[.agg #[.int .i64 k, .int .i64 fr, .int .i64 td, .int .i64 a, .int .i64 b], .int .i64 sl, .pointer (some ⟨X, 0, none⟩), .pointer (some ⟨D, 0, none⟩), v] w
      (SAct base X D E (x, N, s) w) := by
  have h1 := h.alloc g (.cells #[.int .i64 k, .int .i64 fr, .int .i64 td, .int .i64 a, .int .i64 b] 108)
  have x0 := Blk.cell h1.1 0
  have x3 := Blk.cell h1.1 3
  simp only [List.getElem?_toArray, List.getElem?_cons_zero, List.getElem?_cons_succ] at x0 x3
  obtain ⟨ph, xb, xt, xr⟩ := x
  simp only at x0 x3
  cases xr
  · obtain rfl : ph = 0 := by
      rcases hx with hx | hx
      · cases hx
      · exact hx
    go_enter Try.func104, Try.ntmps104
    go_wp2
    go_end0
    exact ⟨rfl, h1, (Fr.refl _ _).alloc _⟩
  · go_enter Try.func104, Try.ntmps104
    go_wp2
    go_end0
    exact ⟨rfl, h1, (Fr.refl _ _).alloc _⟩
set_option maxRecDepth 100000 in
set_option maxHeartbeats 3200000 in
theorem resend_miss (k fr td a b xb : Int) (xt : Bool) (v : Value) (sl P : Nat) (base X D E : Nat) (s : Nat) (N : List No) (w : World) (h : Sta w base X D E ⟨P, xb, xt, false⟩ s N) (g : Geo base X D E) (hP : 0 < P) (hit : ¬ (bel s 256 : Int) < a) :
    Calls Try.prog 104 #[.agg #[.int .i64 k, .int .i64 fr, .int .i64 td, .int .i64 a, .int .i64 b], .int .i64 sl, .pointer (some ⟨X, 0, none⟩), .pointer (some ⟨D, 0, none⟩), v] w
      (SAct base X D E (⟨P, xb, xt, false⟩, N, nx s) w) := by
  have h1 := h.alloc g (.cells #[.int .i64 k, .int .i64 fr, .int .i64 td, .int .i64 a, .int .i64 b] 108)
  have hR := Blk.newAt w 108 #[.int .i64 k, .int .i64 fr, .int .i64 td, .int .i64 a, .int .i64 b] w.heap.size rfl
  have f1 := (Fr.refl (fun i => i = X ∨ i = D) w).alloc (.cells #[.int .i64 k, .int .i64 fr, .int .i64 td, .int .i64 a, .int .i64 b] 108)
  obtain ⟨W, hW⟩ : ∃ q, q = w.alloc (.cells #[.int .i64 k, .int .i64 fr, .int .i64 td, .int .i64 a, .int .i64 b] 108) := ⟨_, rfl⟩
  have x0 := Blk.cell h1.1 0
  have x3 := Blk.cell h1.1 3
  have r3 := hR.cell 3
  simp only [List.getElem?_toArray, List.getElem?_cons_zero, List.getElem?_cons_succ] at x0 x3 r3
  have hp1 : (0 : Int) < (P : Int) := by omega
  have hp2 : ((P : Int) == 0) = false := by simp; omega
  have hp3 : ¬ (P : Int) = 0 := by omega
  have hc := chance_c D s a _ h1.2.1
  simp only [decide_eq_false hit] at hc
  have HCH := hide hc
  clear hc hit hW
  go_enter Try.func104, Try.ntmps104
  go_wp2_with (go_at_call 99; refine HCH.out.mono ?_; rintro e w1 ⟨rfl, hD2, hg⟩)
  go_end0
  exact ⟨rfl, h1.quiet g (Blk.grown h1.1 hg (by have := g.1; have := g.2.1; simp; omega)) hD2 (fr_D hg), (f1.chance hg).quiet g⟩
set_option maxRecDepth 100000 in
set_option maxHeartbeats 3200000 in
theorem resend_same (k fr td a b xb : Int) (xt : Bool) (sl P : Nat) (base X D E : Nat) (s : Nat) (N : List No) (w : World) (h : Sta w base X D E ⟨P, xb, xt, false⟩ s N) (g : Geo base X D E) (hP : 0 < P) (hN : N.length ≤ 900000) (hbase : base ≤ w.heap.size) (hit : (bel s 256 : Int) < a) (hb : (bel (nx s) 2 : Int) = xb) :
    Calls Try.prog 104 #[.agg #[.int .i64 k, .int .i64 fr, .int .i64 td, .int .i64 a, .int .i64 b], .int .i64 sl, .pointer (some ⟨X, 0, none⟩), .pointer (some ⟨D, 0, none⟩), .iface 157 (.pointer (some ⟨E, 0, none⟩))] w
      (SAct base X D E (⟨1, (bel (nx s) 2 : Int), xt, false⟩, N ++ [⟨sl, 1, (bel (nx s) 2 : Int), xt⟩], nx (nx s)) w) := by
  have h1 := h.alloc g (.cells #[.int .i64 k, .int .i64 fr, .int .i64 td, .int .i64 a, .int .i64 b] 108)
  have hR := Blk.newAt w 108 #[.int .i64 k, .int .i64 fr, .int .i64 td, .int .i64 a, .int .i64 b] w.heap.size rfl
  have f1 := (Fr.refl (fun i => i = X ∨ i = D) w).alloc (.cells #[.int .i64 k, .int .i64 fr, .int .i64 td, .int .i64 a, .int .i64 b] 108)
  obtain ⟨W, hW⟩ : ∃ q, q = w.alloc (.cells #[.int .i64 k, .int .i64 fr, .int .i64 td, .int .i64 a, .int .i64 b] 108) := ⟨_, rfl⟩
  have x0 := Blk.cell h1.1 0
  have x3 := Blk.cell h1.1 3
  have r3 := hR.cell 3
  simp only [List.getElem?_toArray, List.getElem?_cons_zero, List.getElem?_cons_succ] at x0 x3 r3
  have hp1 : (0 : Int) < (P : Int) := by omega
  have hp2 : ((P : Int) == 0) = false := by simp; omega
  have hp3 : ¬ (P : Int) = 0 := by omega
  have hc := chance_c D s a _ h1.2.1
  simp only [decide_eq_true hit] at hc
  have HCH := hide hc
  clear hc hit hW
  go_enter Try.func104, Try.ntmps104
  go_upto_region 2 with (go_at_call 99; refine HCH.out.mono ?_; rintro e w1 ⟨rfl, hD2, hg⟩)
  have h2 := h1.quiet g (Blk.grown h1.1 hg (by have := g.1; have := g.2.1; simp; omega)) hD2 (fr_D hg)
  have f2 := (f1.chance hg).quiet g
  have hz2 : base ≤ w1.heap.size := by have := f2.size; omega
  clear h1 f1 x0 x3 r3 hR HCH hD2 hg hp1 hp2 hp3 h
  have hB := below_c D (nx s) 2 w1.drew h2.2.1 (by omega) (by omega)
  obtain ⟨bb, hbb⟩ : ∃ q : Int, q = (bel (nx s) 2 : Int) := ⟨_, rfl⟩
  rw [← hbb] at hB hb ⊢
  have HBB := hide hbb
  have HB := hide hB
  clear hB hbb
  have z1 := Blk.cell h2.1 1
  have z2 := Blk.cell h2.1 2
  simp only [List.getElem?_toArray, List.getElem?_cons_zero, List.getElem?_cons_succ] at z1 z2
  have hXD : some X ≠ some D := by have := g.1; have := g.2.1; simp; omega
  go_region_held3 (fun w' => w'.cell? ⟨X, 1, none⟩ = some (.int .i64 xb) ∧ w'.cell? ⟨X, 2, none⟩ = some (.bool xt)) (first | exact ⟨z1, z2⟩ | exact ⟨hg2.cell z1 hXD, hg2.cell z2 hXD⟩)
    (first | (go_at_call 106; refine HB.out.mono ?_; rintro e w2 ⟨rfl, hD3, hg2⟩))
  have k1 : liB w2 X _ := Blk.grown (w := w1.drew) (Blk.drew h2.1) hg2 hXD
  have h3 := h2.quiet g k1 hD3 ((Fr.refl (fun i => i = X ∨ i = D) w1).drew.chance hg2)
  have f3 : Fr (Tr base D E) w w2 := f2.tr (((Fr.refl (fun i => i = X ∨ i = D) w1).drew.chance hg2).quiet g)
  have hz3 : base ≤ w2.heap.size := by have := f3.size; omega
  have y1 := Blk.cell k1 1
  simp only [List.getElem?_toArray, List.getElem?_cons_zero, List.getElem?_cons_succ] at y1
  clear z1 z2 h2 f2 hD3 hg2 HB hz2
  have hm := mth_hear E
  subst hb
  obtain ⟨m1, m2, A, m3, m4⟩ := h3
  go_wp2_with (first | (refine wl_store (o := ⟨none, _, _, _, _, _⟩) rfl 165 _ _ rfl X #[.int .i64 1, .int .i64 bb, .bool xt, .bool false] rfl rfl 165 _ k1 (by kernel_rfl) rfl (by simp [Value.oneCell']) ?_; intro w4 hX4 hg4; have d4 : Dr w4 D (nx (nx s)) := Blk.grown m2 hg4 (fun e => hXD e.symm); have b4 : Bk w4 E base A N := m3.fr (Fr.of_grown (T := fun i => i = X) hg4 (fun k e => by injection e with e; exact e.symm)) (by have := g.1; have := g.2.2.1; omega) (fun q hq e => m4 (by rw [hq, e])); have HH := hide (hear_c E base A N ⟨sl, 1, bb, xt⟩ w4 b4 (by omega) (by have := hg4.size; omega)); have HK := hide (fun (e : Ending) (w' : World) (k : SHear E base A (N ++ [⟨sl, 1, bb, xt⟩]) w4 e w') => Sta.hear (x := ⟨1, bb, xt, false⟩) hX4 d4 b4 m4 g k)) | (go_at_call 152; refine HH.out.mono ?_; rintro e w5 hs; obtain ⟨rfl, hst, hfr⟩ := HK.out _ _ hs))
  go_end0
  have e1 := HBB.out
  rw [e1] at hst
  exact ⟨rfl, hst, (f3.tr ((Fr.of_grown (T := fun i => i = X) hg4 (fun k e => by injection e with e; exact e.symm)).imp (fun i _ c => by subst c; exact Or.inl g.1))).tr hfr⟩
set_option maxRecDepth 100000 in
set_option maxHeartbeats 3200000 in
theorem resend_diff (k fr td a b xb : Int) (xt : Bool) (sl P : Nat) (base X D E : Nat) (s : Nat) (N : List No) (w : World) (h : Sta w base X D E ⟨P, xb, xt, false⟩ s N) (g : Geo base X D E) (hP : 0 < P) (hN : N.length ≤ 900000) (hbase : base ≤ w.heap.size) (hit : (bel s 256 : Int) < a) (hb : ¬ (bel (nx s) 2 : Int) = xb) :
    Calls Try.prog 104 #[.agg #[.int .i64 k, .int .i64 fr, .int .i64 td, .int .i64 a, .int .i64 b], .int .i64 sl, .pointer (some ⟨X, 0, none⟩), .pointer (some ⟨D, 0, none⟩), .iface 157 (.pointer (some ⟨E, 0, none⟩))] w
      (SAct base X D E (⟨1, (bel (nx s) 2 : Int), ((bel (nx (nx s)) 2 : Int) == 1), false⟩, N ++ [⟨sl, 1, (bel (nx s) 2 : Int), ((bel (nx (nx s)) 2 : Int) == 1)⟩], nx (nx (nx s))) w) := by
  have h1 := h.alloc g (.cells #[.int .i64 k, .int .i64 fr, .int .i64 td, .int .i64 a, .int .i64 b] 108)
  have hR := Blk.newAt w 108 #[.int .i64 k, .int .i64 fr, .int .i64 td, .int .i64 a, .int .i64 b] w.heap.size rfl
  have f1 := (Fr.refl (fun i => i = X ∨ i = D) w).alloc (.cells #[.int .i64 k, .int .i64 fr, .int .i64 td, .int .i64 a, .int .i64 b] 108)
  obtain ⟨W, hW⟩ : ∃ q, q = w.alloc (.cells #[.int .i64 k, .int .i64 fr, .int .i64 td, .int .i64 a, .int .i64 b] 108) := ⟨_, rfl⟩
  have x0 := Blk.cell h1.1 0
  have x3 := Blk.cell h1.1 3
  have r3 := hR.cell 3
  simp only [List.getElem?_toArray, List.getElem?_cons_zero, List.getElem?_cons_succ] at x0 x3 r3
  have hp1 : (0 : Int) < (P : Int) := by omega
  have hp2 : ((P : Int) == 0) = false := by simp; omega
  have hp3 : ¬ (P : Int) = 0 := by omega
  have hc := chance_c D s a _ h1.2.1
  simp only [decide_eq_true hit] at hc
  have HCH := hide hc
  clear hc hit hW
  go_enter Try.func104, Try.ntmps104
  go_upto_region 2 with (go_at_call 99; refine HCH.out.mono ?_; rintro e w1 ⟨rfl, hD2, hg⟩)
  have h2 := h1.quiet g (Blk.grown h1.1 hg (by have := g.1; have := g.2.1; simp; omega)) hD2 (fr_D hg)
  have f2 := (f1.chance hg).quiet g
  have hz2 : base ≤ w1.heap.size := by have := f2.size; omega
  clear h1 f1 x0 x3 r3 hR HCH hD2 hg hp1 hp2 hp3 h
  have hB := below_c D (nx s) 2 w1.drew h2.2.1 (by omega) (by omega)
  obtain ⟨bb, hbb⟩ : ∃ q : Int, q = (bel (nx s) 2 : Int) := ⟨_, rfl⟩
  rw [← hbb] at hB hb ⊢
  have HBB := hide hbb
  have HB := hide hB
  clear hB hbb
  have z1 := Blk.cell h2.1 1
  have z2 := Blk.cell h2.1 2
  simp only [List.getElem?_toArray, List.getElem?_cons_zero, List.getElem?_cons_succ] at z1 z2
  have hXD : some X ≠ some D := by have := g.1; have := g.2.1; simp; omega
  go_region_held3 (fun w' => w'.cell? ⟨X, 1, none⟩ = some (.int .i64 xb) ∧ w'.cell? ⟨X, 2, none⟩ = some (.bool xt)) (first | exact ⟨z1, z2⟩ | exact ⟨hg2.cell z1 hXD, hg2.cell z2 hXD⟩)
    (first | (go_at_call 106; refine HB.out.mono ?_; rintro e w2 ⟨rfl, hD3, hg2⟩))
  have k1 : liB w2 X _ := Blk.grown (w := w1.drew) (Blk.drew h2.1) hg2 hXD
  have h3 := h2.quiet g k1 hD3 ((Fr.refl (fun i => i = X ∨ i = D) w1).drew.chance hg2)
  have f3 : Fr (Tr base D E) w w2 := f2.tr (((Fr.refl (fun i => i = X ∨ i = D) w1).drew.chance hg2).quiet g)
  have hz3 : base ≤ w2.heap.size := by have := f3.size; omega
  have y1 := Blk.cell k1 1
  simp only [List.getElem?_toArray, List.getElem?_cons_zero, List.getElem?_cons_succ] at y1
  clear z1 z2 h2 f2 hD3 hg2 HB hz2
  have hm := mth_hear E
  have hB := below_c D (nx (nx s)) 2 w2 h3.2.1 (by omega) (by omega)
  obtain ⟨cc, hcc⟩ : ∃ q : Int, q = (bel (nx (nx s)) 2 : Int) := ⟨_, rfl⟩
  rw [← hcc] at hB ⊢
  have HCC := hide hcc
  have HB := hide hB
  clear hB hcc
  obtain ⟨m1, m2, A, m3, m4⟩ := h3
  go_wp2_with (first | (go_at_call 106; refine HB.out.mono ?_; rintro e w3 ⟨rfl, n2, hg3⟩; have n1 : liB w3 X _ := Blk.grown k1 hg3 hXD; have n3 : Bk w3 E base A N := m3.fr (fr_D (X := X) hg3) (by have := g.1; have := g.2.2.1; have := g.2.2.2; omega) (fun q hq e => by have := (m3.base q hq).1; rcases e with e | e; exact m4 (by rw [hq, e]); have := g.2.1; omega); have y5 := Blk.cell n1 1; simp only [List.getElem?_toArray, List.getElem?_cons_zero, List.getElem?_cons_succ] at y5) | (refine wl_store (o := ⟨none, _, _, _, _, _⟩) rfl 165 _ _ rfl X #[.int .i64 1, .int .i64 bb, .bool (cc == 1), .bool false] rfl rfl 165 _ n1 (by kernel_rfl) rfl (by simp [Value.oneCell']) ?_; intro w4 hX4 hg4; have d4 : Dr w4 D (nx (nx (nx s))) := Blk.grown n2 hg4 (fun e => hXD e.symm); have b4 : Bk w4 E base A N := n3.fr (Fr.of_grown (T := fun i => i = X) hg4 (fun k e => by injection e with e; exact e.symm)) (by have := g.1; have := g.2.2.1; omega) (fun q hq e => m4 (by rw [hq, e])); have HH := hide (hear_c E base A N ⟨sl, 1, bb, cc == 1⟩ w4 b4 (by omega) (by have := hg4.size; have := hg3.size; omega)); have HK := hide (fun (e : Ending) (w' : World) (k : SHear E base A (N ++ [⟨sl, 1, bb, cc == 1⟩]) w4 e w') => Sta.hear (x := ⟨1, bb, cc == 1, false⟩) hX4 d4 b4 m4 g k)) | (go_at_call 152; refine HH.out.mono ?_; rintro e w5 hs; obtain ⟨rfl, hst, hfr⟩ := HK.out _ _ hs))
  go_end0
  have e1 := HBB.out
  have e2 := HCC.out
  rw [e1, e2] at hst
  exact ⟨rfl, hst, ((f3.tr ((fr_D (X := X) hg3).quiet g)).tr ((Fr.of_grown (T := fun i => i = X) hg4 (fun k e => by injection e with e; exact e.symm)).imp (fun i _ c => by subst c; exact Or.inl g.1))).tr hfr⟩
end Go.Proofs.Ytchhkokpjdkkiaa

namespace Go.Proofs.Ytchhkokpjdkkiaa
open Go.RowKit

theorem actF_bright {r : Ru} {i : Nat} {x : Li} {s : Nat} (h7 : r.k ≠ 7) (hx : x.bright = true) : actF r i x s = (x, [], s) := by
  unfold actF; rw [if_neg h7, if_pos hx]
theorem beq_dec (a b : Int) : (a == b) = decide (a = b) := rfl
theorem bel1 (s : Nat) : ((bel s 2 : Int) == 1) = decide (bel s 2 = 1) := by
  rw [beq_dec, decide_eq_decide]; omega
theorem li_eta {x : Li} {P : Nat} (hp : x.ph = P) (hb : x.bright = false) : x = ⟨P, x.b, x.bit, false⟩ := by cases x; simp_all
/-- The arguments of an act. -/
def actA (r : Ru) (i X D E : Nat) : Array Value :=
  #[.agg #[.int .i64 r.k, .int .i64 r.fr, .int .i64 r.to, .int .i64 r.a, .int .i64 r.b], .int .i64 i, .pointer (some ⟨X, 0, none⟩), .pointer (some ⟨D, 0, none⟩), .iface 157 (.pointer (some ⟨E, 0, none⟩))]
def actT (r : Ru) (i : Nat) (x : Li) (s : Nat) (N : List No) : Li × List No × Nat := ((actF r i x s).1, N ++ (actF r i x s).2.1, (actF r i x s).2.2)
/-- Function f with the captured variables 'caps' does what rule r does. -/
def Does (r : Ru) (i base X D E gA f : Nat) (caps : Array Value) : Prop :=
  ∀ (x : Li) (s : Nat) (N : List No) (W : World), Sta W base X D E x s N → Caps W gA → okPh x → N.length ≤ 900000 → base ≤ W.heap.size →
    Calls Try.prog f (actA r i X D E ++ caps) W (SAct base X D E (actT r i x s N) W)
theorem cf1 (args : Array Value) (W : World) : (callFunc 97 args).run Try.prog W = .ok (.enter 97 args) W := by kernel_rfl
theorem cf4 (args : Array Value) (W : World) : (callFunc 104 args).run Try.prog W = .ok (.enter 104 args) W := by kernel_rfl
theorem cf5 (args : Array Value) (W : World) : (callFunc 103 args).run Try.prog W = .ok (.enter 103 args) W := by kernel_rfl
theorem cf7 (args : Array Value) (W : World) : (callFunc 105 args).run Try.prog W = .ok (.enter 105 args) W := by kernel_rfl
section
variable {r : Ru} {i base X D E gA : Nat} (g : Geo base X D E)
include g
theorem does1 (h : r.k = 1) : Does r i base X D E gA 97 #[.pointer (some ⟨gA + 1, 0, none⟩)] := by
  intro x s N W hs hc hp hN hb
  have hB : actF r i x s = (if x.bright then (x, [], s) else (⟨x.ph - ((lossF r.a s x.ph.toNat).1 : Nat), x.b, x.bit, false⟩, [], (lossF r.a s x.ph.toNat).2)) := by
    unfold actF; rw [if_neg (show ¬ r.k = 7 by omega), if_pos h]
  refine (quiet2_c r.k r.fr r.to r.a r.b i _ base X D E (gA + 1) x (actF r i x s).1 s (actF r i x s).2.2 N W hs g hc.1 (fun hx V h1 h2 => ?_) (fun hx => ?_)).mono fun e w' k => ?_
  · obtain ⟨P, hP⟩ := Int.eq_ofNat_of_zero_le hp.1
    have e1 := li_eta hP hx
    have h3 : P ≤ 3 := by have := hp.2; omega
    rw [e1] at h1
    rw [hB, if_neg (by simp [hx]), hP]
    exact loss_c r.k r.fr r.to r.a r.b X D s P x.b x.bit V h1 h2 (by have := g.1; have := g.2.1; omega) h3
  · rw [actF_bright (by omega) hx]; exact ⟨rfl, rfl⟩
  · have : (actF r i x s).2.1 = [] := by rw [hB]; split <;> rfl
    unfold actT; rw [this, List.append_nil]; exact k
theorem does2 (h : r.k = 2) : Does r i base X D E gA 97 #[.pointer (some ⟨gA + 2, 0, none⟩)] := by
  intro x s N W hs hc hp hN hb
  have hB : actF r i x s = (if x.bright then (x, [], s) else (if 0 < x.ph then (if hit r.a s then ⟨x.ph, x.b, !x.bit, false⟩ else x, [], nx s) else (x, [], s))) := by
    unfold actF; rw [if_neg (show ¬ r.k = 7 by omega), if_neg (show ¬ r.k = 1 by omega), if_pos h]
  refine (quiet3_c r.k r.fr r.to r.a r.b i _ base X D E (gA + 2) x (actF r i x s).1 s (actF r i x s).2.2 N W hs g hc.2.1 (fun hx V h1 h2 => ?_) (fun hx => ?_)).mono fun e w' k => ?_
  · obtain ⟨P, hP⟩ := Int.eq_ofNat_of_zero_le hp.1
    have e1 := li_eta hP hx
    have h3 : P ≤ 3 := by have := hp.2; omega
    have hn : noiF r.a s P x.b x.bit = ((actF r i x s).1, (actF r i x s).2.2) := by
      rw [hB, if_neg (by simp [hx]), hP]
      unfold noiF hit
      by_cases h0 : 0 < P
      · rw [if_pos h0, if_pos (show (0 : Int) < (P : Int) by omega)]
        by_cases ht : (bel s 256 : Int) < r.a
        · rw [if_pos ht, if_pos (decide_eq_true ht)]
        · rw [if_neg ht, if_neg (by simpa using ht), ← e1]
      · rw [if_neg h0, if_neg (show ¬ (0 : Int) < (P : Int) by omega), ← e1]
    rw [e1] at h1
    have := noise_c r.k r.fr r.to r.a r.b X D s P x.b x.bit V h1 h2 (by have := g.1; have := g.2.1; omega) h3
    rw [hn] at this
    exact this
  · rw [actF_bright (by omega) hx]; exact ⟨rfl, rfl⟩
  · have : (actF r i x s).2.1 = [] := by rw [hB]; (repeat' split) <;> rfl
    unfold actT; rw [this, List.append_nil]; exact k
theorem does3 (h : r.k = 3) : Does r i base X D E gA 97 #[.pointer (some ⟨gA + 3, 0, none⟩)] := by
  intro x s N W hs hc hp hN hb
  have hB : actF r i x s = (x, [], s) := by
    unfold actF; rw [if_neg (show ¬ r.k = 7 by omega), if_neg (show ¬ r.k = 1 by omega), if_neg (show ¬ r.k = 2 by omega), if_neg (show ¬ r.k = 6 by omega), if_neg (show ¬ r.k = 5 by omega), if_neg (show ¬ r.k = 4 by omega)]
    split <;> rfl
  refine (quiet4_c r.k r.fr r.to r.a r.b i _ base X D E (gA + 3) x (actF r i x s).1 s (actF r i x s).2.2 N W hs g hc.2.2.1 (fun hx V h1 h2 => ?_) (fun hx => ?_)).mono fun e w' k => ?_
  · rw [hB]
    exact late_c r.k r.fr r.to r.a r.b X D s x V h1 h2
  · rw [hB]; exact ⟨rfl, rfl⟩
  · have : (actF r i x s).2.1 = [] := by rw [hB]
    unfold actT; rw [this, List.append_nil]; exact k
theorem does6 (h : r.k = 6) : Does r i base X D E gA 97 #[.pointer (some ⟨gA + 4, 0, none⟩)] := by
  intro x s N W hs hc hp hN hb
  have hB : actF r i x s = (if x.bright then (x, [], s) else (if x.ph = 1 then (if hit r.a s then ⟨0, x.b, x.bit, false⟩ else x, [], nx s) else (x, [], s))) := by
    unfold actF; rw [if_neg (show ¬ r.k = 7 by omega), if_neg (show ¬ r.k = 1 by omega), if_neg (show ¬ r.k = 2 by omega), if_pos h]
  refine (quiet5_c r.k r.fr r.to r.a r.b i _ base X D E (gA + 4) x (actF r i x s).1 s (actF r i x s).2.2 N W hs g hc.2.2.2 (fun hx V h1 h2 => ?_) (fun hx => ?_)).mono fun e w' k => ?_
  · obtain ⟨P, hP⟩ := Int.eq_ofNat_of_zero_le hp.1
    have e1 := li_eta hP hx
    have h3 : P ≤ 3 := by have := hp.2; omega
    have hn : staF r.a s P x.b x.bit = ((actF r i x s).1, (actF r i x s).2.2) := by
      rw [hB, if_neg (by simp [hx]), hP]
      unfold staF hit
      by_cases h0 : P = 1
      · rw [if_pos h0, if_pos (show (P : Int) = 1 by omega)]
        by_cases ht : (bel s 256 : Int) < r.a
        · rw [if_pos ht, if_pos (decide_eq_true ht)]
        · rw [if_neg ht, if_neg (by simpa using ht), ← e1]
      · rw [if_neg h0, if_neg (show ¬ (P : Int) = 1 by omega), ← e1]
    rw [e1] at h1
    have := starve_c r.k r.fr r.to r.a r.b X D s P x.b x.bit V h1 h2 (by have := g.1; have := g.2.1; omega) h3
    rw [hn] at this
    exact this
  · rw [actF_bright (by omega) hx]; exact ⟨rfl, rfl⟩
  · have : (actF r i x s).2.1 = [] := by rw [hB]; (repeat' split) <;> rfl
    unfold actT; rw [this, List.append_nil]; exact k
theorem does5 (h : r.k = 5) : Does r i base X D E gA 103 #[] := by
  intro x s N W hs hc hp hN hb
  have hB : actF r i x s = (if x.bright then (x, [], s) else (if 2 ≤ x.ph then (⟨x.ph - 1, x.b, x.bit, false⟩, [⟨i, 2, x.b, x.bit⟩], s) else (x, [], s))) := by
    unfold actF; rw [if_neg (show ¬ r.k = 7 by omega), if_neg (show ¬ r.k = 1 by omega), if_neg (show ¬ r.k = 2 by omega), if_neg (show ¬ r.k = 6 by omega), if_pos h]
  obtain ⟨P, hP⟩ := Int.eq_ofNat_of_zero_le hp.1
  have h3 : P ≤ 3 := by have := hp.2; omega
  by_cases hx : x.bright = false ∧ 2 ≤ x.ph
  · have e1 := li_eta hP hx.1
    have hs2 := hs
    rw [e1] at hs2
    have hT : actT r i x s N = (⟨P - 1, x.b, x.bit, false⟩, N ++ [⟨i, 2, x.b, x.bit⟩], s) := by
      unfold actT; rw [hB, if_neg (by simp [hx.1]), if_pos hx.2, hP]
    rw [hT]
    exact split_yes r.k r.fr r.to r.a r.b x.b x.bit i P base X D E s N W hs2 g hN hb (by have := hx.2; omega) h3
  · have hx2 : x.bright = true ∨ x.ph < 2 := by
      cases hb2 : x.bright
      · right; have : ¬ 2 ≤ x.ph := fun c => hx ⟨hb2, c⟩
        omega
      · exact Or.inl rfl
    have hT : actT r i x s N = (x, N, s) := by
      unfold actT; rw [hB]
      rcases hx2 with h1 | h1
      · rw [if_pos h1]; simp
      · rw [if_neg (show ¬ 2 ≤ x.ph by omega)]; split <;> simp
    rw [hT]
    exact split_no r.k r.fr r.to r.a r.b _ i base X D E x s N W hs g hx2
theorem does7 (h : r.k = 7) : Does r i base X D E gA 105 #[] := by
  intro x s N W hs hc hp hN hb
  have hT : actT r i x s N = (⟨0, r.a, r.b == 1, true⟩, N ++ [⟨i, 3, r.a, r.b == 1⟩], s) := by
    unfold actT actF; rw [if_pos h]; rfl
  rw [hT]
  exact blind_c r.k r.fr r.to r.a r.b i base X D E x s N W hs g hN hb
theorem does4 (h : r.k = 4) : Does r i base X D E gA 104 #[] := by
  intro x s N W hs hc hp hN hb
  have hB : actF r i x s = (if x.bright then (x, [], s) else (if x.ph = 0 then (x, [], s) else if hit r.a s then
      (if (bel (nx s) 2 : Int) = x.b then (⟨1, (bel (nx s) 2 : Int), x.bit, false⟩, [⟨i, 1, (bel (nx s) 2 : Int), x.bit⟩], nx (nx s))
       else (⟨1, (bel (nx s) 2 : Int), decide (bel (nx (nx s)) 2 = 1), false⟩, [⟨i, 1, (bel (nx s) 2 : Int), decide (bel (nx (nx s)) 2 = 1)⟩], nx (nx (nx s))))
    else (x, [], nx s))) := by
    unfold actF; rw [if_neg (show ¬ r.k = 7 by omega), if_neg (show ¬ r.k = 1 by omega), if_neg (show ¬ r.k = 2 by omega), if_neg (show ¬ r.k = 6 by omega), if_neg (show ¬ r.k = 5 by omega), if_pos h]
  obtain ⟨P, hP⟩ := Int.eq_ofNat_of_zero_le hp.1
  by_cases hx : x.bright = true ∨ x.ph = 0
  · have hT : actT r i x s N = (x, N, s) := by
      unfold actT; rw [hB]
      rcases hx with h1 | h1
      · rw [if_pos h1]; simp
      · rw [if_pos h1]; split <;> simp
    rw [hT]
    exact resend_none r.k r.fr r.to r.a r.b _ i base X D E x s N W hs g hx
  · have hxb : x.bright = false := by
      cases hb2 : x.bright
      · rfl
      · exact absurd (Or.inl hb2) hx
    have hx0 : ¬ x.ph = 0 := fun c => hx (Or.inr c)
    have e1 := li_eta hP hxb
    have hs2 := hs
    rw [e1] at hs2
    rw [if_neg (by simp [hxb]), if_neg hx0] at hB
    by_cases ht : (bel s 256 : Int) < r.a
    · rw [if_pos (show hit r.a s = true from decide_eq_true ht)] at hB
      by_cases hbb : (bel (nx s) 2 : Int) = x.b
      · have hT : actT r i x s N = (⟨1, (bel (nx s) 2 : Int), x.bit, false⟩, N ++ [⟨i, 1, (bel (nx s) 2 : Int), x.bit⟩], nx (nx s)) := by
          unfold actT; rw [hB, if_pos hbb]
        rw [hT]
        exact resend_same r.k r.fr r.to r.a r.b x.b x.bit i P base X D E s N W hs2 g (by omega) hN hb ht hbb
      · have hT : actT r i x s N = (⟨1, (bel (nx s) 2 : Int), ((bel (nx (nx s)) 2 : Int) == 1), false⟩, N ++ [⟨i, 1, (bel (nx s) 2 : Int), ((bel (nx (nx s)) 2 : Int) == 1)⟩], nx (nx (nx s))) := by
          unfold actT; rw [hB, if_neg hbb, bel1]
        rw [hT]
        exact resend_diff r.k r.fr r.to r.a r.b x.b x.bit i P base X D E s N W hs2 g (by omega) hN hb ht hbb
    · have hT : actT r i x s N = (⟨P, x.b, x.bit, false⟩, N, nx s) := by
        unfold actT; rw [hB, if_neg (show ¬ hit r.a s = true by simpa [hit] using ht), ← e1]; simp
      rw [hT]
      exact resend_miss r.k r.fr r.to r.a r.b x.b x.bit _ i P base X D E s N W hs2 g (by omega) ht
theorem act_any (hr : okRu r = true) : ∃ (K f : Nat) (caps : Array Value), r.k = (K : Int) ∧ 1 ≤ K ∧ K < 8 ∧ (actV gA)[K]? = some (.func (.func f) #[] caps) ∧ (∀ (args : Array Value) (W : World), (callFunc f args).run Try.prog W = .ok (.enter f args) W) ∧ Does r i base X D E gA f caps := by
  obtain ⟨h1, h7⟩ := okRu_kind hr
  obtain ⟨K, hK⟩ := Int.eq_ofNat_of_zero_le (show 0 ≤ r.k by omega)
  match K, hK with
  | 0, hK => omega
  | 1, hK => exact ⟨1, _, _, hK, by omega, by omega, rfl, cf1, does1 g hK⟩
  | 2, hK => exact ⟨2, _, _, hK, by omega, by omega, rfl, cf1, does2 g hK⟩
  | 3, hK => exact ⟨3, _, _, hK, by omega, by omega, rfl, cf1, does3 g hK⟩
  | 4, hK => exact ⟨4, _, _, hK, by omega, by omega, rfl, cf4, does4 g hK⟩
  | 5, hK => exact ⟨5, _, _, hK, by omega, by omega, rfl, cf5, does5 g hK⟩
  | 6, hK => exact ⟨6, _, _, hK, by omega, by omega, rfl, cf1, does6 g hK⟩
  | 7, hK => exact ⟨7, _, _, hK, by omega, by omega, rfl, cf7, does7 g hK⟩
  | K + 8, hK => omega
end
end Go.Proofs.Ytchhkokpjdkkiaa
