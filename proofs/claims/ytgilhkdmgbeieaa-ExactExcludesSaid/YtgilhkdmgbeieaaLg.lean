/- The walk of the law ExactMonotone. -/
import Derived.Test.YtgilhkdmgbeieaaPc
import Derived.Test.YtgilhkdmgbeieaaRi
import Derived.Test.YtgilhkdmgbeieaaWo
namespace Go.Proofs.Ytgilhkdmgbeieaa
open Go.RowKit

theorem cmp_red {f g : FA} {V D W E : Nat} (hf1 : Num 4294967296 f.l (V / Nat.gcd V D)) (hf2 : Num 4294967296 f.l' (D / Nat.gcd V D)) (hg1 : Num 4294967296 g.l (W / Nat.gcd W E)) (hg2 : Num 4294967296 g.l' (E / Nat.gcd W E))
    (h1 : f.n ≤ 64) (h2 : f.n' ≤ 64) (h3 : g.n ≤ 64) (h4 : g.n' ≤ 64) (hD : 0 < D) (hE : 0 < E) : fcmpV f g = ordI (V * E) (W * D) ∧ errV [f, g] = 0 := by
  have he : errV [f, g] = 0 := errV_ok h1 h2 (by rw [hf2.val_]; exact gcd_div_pos hD) h3 h4 (by rw [hg2.val_]; exact gcd_div_pos hE)
  refine ⟨?_, he⟩
  unfold fcmpV
  rw [if_pos he, hf1.val_, hf2.val_, hg1.val_, hg2.val_, red_cross hD hE]
theorem ordI_le {x y : Nat} (h : x ≤ y) : ordI x y ≤ 0 := by
  unfold ordI
  split
  · omega
  · rw [if_pos (by omega)]; omega

theorem Blk.two_cells {w : World} {g : Nat} {t : TypeId} {x y : Value} (h : Blk w g t #[x, y]) : w.cell? ⟨g, 0, none⟩ = some x ∧ w.cell? ⟨g, 1, none⟩ = some y := by
  have h0 := h.cell 0
  have h1 := h.cell 1
  simp at h0 h1
  exact ⟨h0, h1⟩

set_option maxRecDepth 100000 in
set_option maxHeartbeats 3200000 in
theorem monotone_w (a1 a2 a3 a4 : Nat) (w : World) (h1 : a1 ≤ 65535) (h2 : a2 ≤ 65535) (h3 : a3 ≤ 65535) (h4 : a4 ≤ 65535) :
    Calls Try.prog 5 #[.int .u16 a1, .int .u16 a2, .int .u16 a3, .int .u16 a4] w fun e w' => e = .returned (.bool true) ∧ Below w.heap.size w w' := by
  obtain ⟨n, HN, hn, hn0⟩ : ∃ n : Nat, Hid (1 + a1 % 512 = n) ∧ n ≤ 512 ∧ 0 < n := ⟨_, rfl, by omega, by omega⟩
  obtain ⟨b, HB, hb⟩ : ∃ b : Nat, Hid (a2 % n = b) ∧ b < n := ⟨_, rfl, Nat.mod_lt a2 hn0⟩
  obtain ⟨k, HK, hk⟩ : ∃ k : Nat, Hid (a3 % (n + 1) = k) ∧ k ≤ n := ⟨_, rfl, by have := Nat.mod_lt a3 (show 0 < n + 1 by omega); omega⟩
  obtain ⟨s, HS, hs⟩ : ∃ s : Nat, Hid (a4 % (k + 1) = s) ∧ s ≤ k := ⟨_, rfl, by have := Nat.mod_lt a4 (show 0 < k + 1 by omega); omega⟩
  have e1 : 1 + (a1 : Int) % 512 = (n : Int) := by have := HN.out; omega
  have e2 : (a2 : Int) % (n : Int) = (b : Int) := by have := HB.out; rw [← this]; simp
  have e3 : (a3 : Int) % ((n : Int) + 1) = (k : Int) := by have := HK.out; rw [← this]; simp
  have e4 : (a4 : Int) % ((k : Int) + 1) = (s : Int) := by have := HS.out; rw [← this]; simp
  go_enter Try.func5, Try.ntmps5
  go_wp2_with fail
  rw [e2, e3, e4]
  clear e1 e2 e3 e4
  refine (tail_ok n b k s w hn (by omega) hk (by omega) (by omega)).mono ?_
  rintro e w1 ⟨f, rfl, hf, f1, f2, fl1, fl2, hb1⟩
  go_wp2_with fail
  have XF := Blk.new w1 25 #[.slice f.A f.n f.c, .slice f.A' f.n' f.c']
  have ha := (Below.refl w1.heap.size w1).alloc (Nat.le_refl _) (.cells #[.slice f.A f.n f.c, .slice f.A' f.n' f.c'] 25)
  generalize w1.alloc (.cells #[.slice f.A f.n f.c, .slice f.A' f.n' f.c'] 25) = w2 at *
  have hf2 := (hf.below ha).mono ha.size
  have hw2 := hb1.trans (ha.mono hb1.size)
  clear hf ha hb1
  refine (tail_ok n (b + 1) k s w2 hn (by omega) hk (by omega) (by omega)).mono ?_
  rintro e w3 ⟨g, rfl, hg, g1, g2, gl1, gl2, hb3⟩
  have hf3 := (hf2.below hb3).mono hb3.size
  have XF3 := XF.keep hb3
  have hw3 := hw2.trans (hb3.mono hw2.size)
  clear hf2 XF hb3 hw2
  go_wp2_with fail
  have XG := Blk.new w3 25 #[.slice g.A g.n g.c, .slice g.A' g.n' g.c']
  have ha := (Below.refl w3.heap.size w3).alloc (Nat.le_refl _) (.cells #[.slice g.A g.n g.c, .slice g.A' g.n' g.c'] 25)
  generalize w3.alloc (.cells #[.slice g.A g.n g.c, .slice g.A' g.n' g.c'] 25) = w4 at *
  have hf4 := (hf3.below ha).mono ha.size
  have hg4 := (hg.below ha).mono ha.size
  have XF4 := XF3.keep ha
  have hw4 := hw3.trans (ha.mono hw3.size)
  clear hf3 hg XF3 ha hw3
  refine (tail_ok n b k (s + 1 : Nat) w4 hn (by omega) hk (by omega) (by omega)).mono ?_
  rintro e w5 ⟨h, rfl, hh, h1, h2, hl1, hl2, hb5⟩
  have hf5 := (hf4.below hb5).mono hb5.size
  have hg5 := (hg4.below hb5).mono hb5.size
  have XF5 := XF4.keep hb5
  have XG5 := XG.keep hb5
  have hw5 := hw4.trans (hb5.mono hw4.size)
  clear hf4 hg4 XF4 XG hb5 hw4
  go_wp2_with fail
  have XH := Blk.new w5 25 #[.slice h.A h.n h.c, .slice h.A' h.n' h.c']
  have ha := (Below.refl w5.heap.size w5).alloc (Nat.le_refl _) (.cells #[.slice h.A h.n h.c, .slice h.A' h.n' h.c'] 25)
  generalize w5.alloc (.cells #[.slice h.A h.n h.c, .slice h.A' h.n' h.c'] 25) = w6 at *
  have hf6 := (hf5.below ha).mono ha.size
  have hg6 := (hg5.below ha).mono ha.size
  have hh6 := (hh.below ha).mono ha.size
  have XF6 := XF5.keep ha
  have XG6 := XG5.keep ha
  have hw6 := hw5.trans (ha.mono hw5.size)
  clear hf5 hg5 hh XF5 XG5 ha hw5
  refine (tail_ok n k b s w6 hn hk (by omega) (by omega) (by omega)).mono ?_
  rintro e w7 ⟨t, rfl, ht, t1, t2, tl1, tl2, hb7⟩
  have hf7 := (hf6.below hb7).mono hb7.size
  have hg7 := (hg6.below hb7).mono hb7.size
  have hh7 := (hh6.below hb7).mono hb7.size
  have XF7 := XF6.keep hb7
  have XG7 := XG6.keep hb7
  have XH7 := XH.keep hb7
  have hw7 := hw6.trans (hb7.mono hw6.size)
  clear hf6 hg6 hh6 XF6 XG6 XH hb7 hw6
  have ha := (Below.refl w7.heap.size w7).alloc (Nat.le_refl _) (.cells #[.slice t.A t.n t.c, .slice t.A' t.n' t.c'] 25)
  obtain ⟨F0, F1⟩ := (XF7.keep ha).two_cells
  obtain ⟨G0, G1⟩ := (XG7.keep ha).two_cells
  obtain ⟨H0, H1⟩ := (XH7.keep ha).two_cells
  have gF := (XF7.keep ha).lt
  have gG := (XG7.keep ha).lt
  have gH := (XH7.keep ha).lt
  obtain ⟨T0, T1⟩ := (Blk.new w7 25 #[.slice t.A t.n t.c, .slice t.A' t.n' t.c']).two_cells
  have hf8 := (hf7.below ha).mono ha.size
  have hg8 := (hg7.below ha).mono ha.size
  have hh8 := (hh7.below ha).mono ha.size
  have ht8 := (ht.below ha).mono ha.size
  have hw8 := hw7.trans (ha.mono hw7.size)
  clear hf7 hg7 hh7 ht XF7 XG7 XH7 ha hw7
  go_wp2_with fail
  generalize w7.alloc (.cells #[.slice t.A t.n t.c, .slice t.A' t.n' t.c'] 25) = w8 at *
  have hpD : 0 < Cn n k := Cn_pos hk
  have hpE : 0 < Cn n b := Cn_pos (by omega)
  obtain ⟨q1, q2⟩ := red_eq (V := Wn n b k ((s : Int) + 1).toNat) (W := Wn n k b ((s : Int) + 1).toNat) hpD hpE (Wn_swap (by omega) hk _)
  rw [← q1] at t1
  rw [← q2] at t2
  have l1 := f1.uniq t1 (by omega)
  have l2 := f2.uniq t2 (by omega)
  obtain ⟨c1, c1e⟩ := cmp_red (f := g) (g := f) g1 g2 f1 f2 gl1 gl2 fl1 fl2 hpD hpD
  obtain ⟨c2, c2e⟩ := cmp_red (f := f) (g := h) f1 f2 h1 h2 fl1 fl2 hl1 hl2 hpD hpD
  have hn1 : ((s : Int) + 1).toNat = s + 1 := by omega
  have hn2 : (((s + 1 : Nat) : Int) + 1).toNat = s + 1 + 1 := by omega
  have d1 : fcmpV g f ≤ 0 := by
    rw [c1]
    exact ordI_le (Nat.mul_le_mul_right _ (Wn_anti _ _ (by omega)))
  have d2 : fcmpV f h ≤ 0 := by
    rw [c2, hn1, hn2]
    exact ordI_le (Nat.mul_le_mul_right _ (Wn_mono _ _ _ (by omega)))
  clear c1 c2 q1 q2 f1 f2 g1 g2 h1 h2 t1 t2
  refine (rsameFrac_c _ _ _ _ _ _ _ _ _ _ _ _ _ _ _ _ w8 hf8.num hf8.den ht8.num ht8.den).mono ?_
  rintro e w9 ⟨rfl, hb9⟩
  rw [show decide (f.l = t.l ∧ f.l' = t.l') = true by simp [l1, l2]]
  have F0' := (hb9.cell (p := ⟨w1.heap.size, 0, none⟩) gF).trans F0
  have F1' := (hb9.cell (p := ⟨w1.heap.size, 1, none⟩) gF).trans F1
  have G0' := (hb9.cell (p := ⟨w3.heap.size, 0, none⟩) gG).trans G0
  have G1' := (hb9.cell (p := ⟨w3.heap.size, 1, none⟩) gG).trans G1
  have H0' := (hb9.cell (p := ⟨w5.heap.size, 0, none⟩) gH).trans H0
  have H1' := (hb9.cell (p := ⟨w5.heap.size, 1, none⟩) gH).trans H1
  have hf9 := (hf8.below hb9).mono hb9.size
  have hg9 := (hg8.below hb9).mono hb9.size
  have hh9 := (hh8.below hb9).mono hb9.size
  have hw9 := hw8.trans (hb9.mono hw8.size)
  have gF' : w1.heap.size < w9.heap.size := Nat.lt_of_lt_of_le gF hb9.size
  have gH' : w5.heap.size < w9.heap.size := Nat.lt_of_lt_of_le gH hb9.size
  clear F0 F1 G0 G1 H0 H1 T0 T1 hf8 hg8 hh8 ht8 hw8 hb9 gF gG gH
  have tt1 := xfcompare_c g f w9 _ hg9 hf9 (Nat.le_refl _)
  rw [c1e] at tt1
  obtain ⟨z1, hz1⟩ : ∃ z, fcmpV g f = z := ⟨_, rfl⟩
  rw [hz1] at tt1 d1
  go_wp2_with fail
  refine tt1.mono ?_
  rintro e w10 ⟨rfl, hb10⟩
  have F0 := (hb10.cell (p := ⟨w1.heap.size, 0, none⟩) gF').trans F0'
  have F1 := (hb10.cell (p := ⟨w1.heap.size, 1, none⟩) gF').trans F1'
  have H0 := (hb10.cell (p := ⟨w5.heap.size, 0, none⟩) gH').trans H0'
  have H1 := (hb10.cell (p := ⟨w5.heap.size, 1, none⟩) gH').trans H1'
  have hf10 := (hf9.below hb10).mono hb10.size
  have hh10 := (hh9.below hb10).mono hb10.size
  have hw10 := hw9.trans (hb10.mono hw9.size)
  clear F0' F1' G0' G1' H0' H1' hf9 hg9 hh9 hw9 hb10 tt1
  have tt2 := xfcompare_c f h w10 _ hf10 hh10 (Nat.le_refl _)
  rw [c2e] at tt2
  obtain ⟨z2, hz2⟩ : ∃ z, fcmpV f h = z := ⟨_, rfl⟩
  rw [hz2] at tt2 d2
  go_wp2_with fail
  refine tt2.mono ?_
  rintro e w11 ⟨rfl, hb11⟩
  have hw11 := hw10.trans (hb11.mono hw10.size)
  clear tt2 hb11 hw10 F0 F1 H0 H1
  go_wp2_with fail
  refine (works_c _).mono ?_
  rintro e w12 ⟨rfl, hb12⟩
  go_wp2
  go_ret
  exact ⟨rfl, hw11.trans (hb12.mono hw11.size)⟩
end Go.Proofs.Ytgilhkdmgbeieaa
