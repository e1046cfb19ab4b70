/- The walk of the law ExactExcludes. -/
import Derived.Test.YtgilhkdmgbeieaaPd
import Derived.Test.YtgilhkdmgbeieaaPe
import Derived.Test.YtgilhkdmgbeieaaLg
import Derived.Test.YtgilhkdmgbeieaaOb
namespace Go.Proofs.Ytgilhkdmgbeieaa
open Go.RowKit

theorem bsN_spec {p : Nat → Bool} {top : Nat} (ha : ∀ i j, i ≤ j → j ≤ top → p j = true → p i = true) : ∀ (m low high : Nat), high - low ≤ m → low ≤ high → high ≤ top → p low = true →
    low ≤ bsN p low high ∧ bsN p low high ≤ high ∧ p (bsN p low high) = true ∧ ∀ j, j ≤ high → p j = true → j ≤ bsN p low high
  | m, low, high, hm, h1, h2, hp => by
    by_cases h : low < high
    · cases hq : p ((low + high + 1) / 2) with
      | true =>
        rw [bsN_up h hq]
        rcases m with _ | m
        · omega
        · obtain ⟨a1, a2, a3, a4⟩ := bsN_spec ha m ((low + high + 1) / 2) high (by omega) (by omega) h2 hq
          exact ⟨by omega, a2, a3, a4⟩
      | false =>
        rw [bsN_down h hq]
        rcases m with _ | m
        · omega
        · obtain ⟨a1, a2, a3, a4⟩ := bsN_spec ha m low ((low + high + 1) / 2 - 1) (by omega) (by omega) (by omega) hp
          refine ⟨a1, by omega, a3, fun j hj hpj => a4 j ?_ hpj⟩
          rcases Nat.lt_or_ge j ((low + high + 1) / 2) with hlt | hge
          · omega
          · have := ha _ _ hge (by omega) hpj
            rw [hq] at this
            cases this
    · rw [bsN_end h]
      obtain rfl : low = high := by omega
      exact ⟨Nat.le_refl _, Nat.le_refl _, hp, fun j hj _ => hj⟩
theorem poss_anti (T k s x y : Nat) : ∀ i j, i ≤ j → j ≤ T → possN T k s x y j = true → possN T k s x y i = true := fun i j h1 h2 h => by
  simp only [possN, decide_eq_true_eq] at h ⊢
  exact Nat.lt_of_lt_of_le h (Nat.mul_le_mul_right _ (Wn_anti' h1 h2))
theorem poss_low {T k s x y : Nat} (hs : s ≤ T) (hk : k ≤ T) (h : x < y) : possN T k s x y s = true := by
  simp only [possN, decide_eq_true_eq]
  obtain ⟨R, rfl⟩ : ∃ R, T = s + R := ⟨T - s, by omega⟩
  rw [Wn_full s (s + 1) (by omega), Nat.mul_comm]
  exact Nat.mul_lt_mul_of_pos_left h (Cn_pos hk)
theorem errV_ok1 {f : FA} (h1 : f.n ≤ 64) (h2 : f.n' ≤ 64) (h3 : 0 < val 4294967296 f.l') : errV [f] = 0 := by
  unfold errV
  rw [if_neg (by simp [FA.long]; omega), if_neg (by simp [FA.zero]; omega)]
theorem bound_ok (T k s x y : Nat) (f : FA) (w : World) (hf : f.Rd w w.heap.size) (hT : T ≤ 512) (hk : k ≤ T) (hs : s ≤ k) (h1 : Num 4294967296 f.l x) (h2 : Num 4294967296 f.l' y) (hn : f.n ≤ 64) (hn' : f.n' ≤ 64) (hxy : x < y) :
    Calls Try.prog 34 #[.int .i64 T, .int .i64 k, .int .i64 s, .agg #[.slice f.A f.n f.c, .slice f.A' f.n' f.c']] w
      fun e w' => e = .returned (.tuple #[.int .i64 (bsN (possN T k s x y) s T : Nat), .int .i64 0]) ∧ Below w.heap.size w w' :=
  (xbound_c T k s f w _ hf (Nat.le_refl _)).mono fun e w' ⟨b, err, he, S, hb⟩ => by
    have e0 : errV [f] = 0 := errV_ok1 hn hn' (by rw [h2.val_]; omega)
    have ok : saneB T k = true ∧ 0 ≤ (s : Int) ∧ (s : Int) ≤ k := ⟨saneB_true.2 (by omega), by omega, by omega⟩
    rcases S with ⟨h, _⟩ | ⟨_, h, _⟩ | ⟨_, _, h, _⟩ | ⟨_, _, _, hb9, he9⟩
    · exact absurd e0 h
    · exact absurd ok h
    · rw [h1.val_, h2.val_] at h; omega
    · rw [h1.val_, h2.val_] at hb9
      subst hb9 he9
      exact ⟨he, hb⟩
theorem cmp_eps {f g : FA} {W D x y : Nat} (hf1 : Num 4294967296 f.l (W / Nat.gcd W D)) (hf2 : Num 4294967296 f.l' (D / Nat.gcd W D)) (hg1 : Num 4294967296 g.l x) (hg2 : Num 4294967296 g.l' y)
    (h1 : f.n ≤ 64) (h2 : f.n' ≤ 64) (h3 : g.n ≤ 64) (h4 : g.n' ≤ 64) (hD : 0 < D) (hy : 0 < y) : fcmpV f g = ordI (W * y) (x * D) ∧ errV [f, g] = 0 := by
  have he : errV [f, g] = 0 := errV_ok h1 h2 (by rw [hf2.val_]; exact gcd_div_pos hD) h3 h4 (by rw [hg2.val_]; exact hy)
  refine ⟨?_, he⟩
  unfold fcmpV
  rw [if_pos he, hf1.val_, hf2.val_, hg1.val_, hg2.val_, red_cross1 hD]

set_option maxRecDepth 100000 in
set_option maxHeartbeats 6400000 in
theorem excludes_w (a1 a2 a3 p q : Nat) (w : World) (h1 : a1 ≤ 65535) (h2 : a2 ≤ 65535) (h3 : a3 ≤ 65535) (hp : p ≤ 4294967295) (hq : q ≤ 4294967295) :
    Calls Try.prog 11 #[.int .u16 a1, .int .u16 a2, .int .u16 a3, .int .u32 p, .int .u32 q] w fun e w' => e = .returned (.bool true) ∧ Below w.heap.size w w' := by
  obtain ⟨n, HN, hn⟩ : ∃ n : Nat, Hid (a1 % 513 = n) ∧ n ≤ 512 := ⟨_, rfl, by omega⟩
  obtain ⟨k, HK, hk⟩ : ∃ k : Nat, Hid (a2 % (n + 1) = k) ∧ k ≤ n := ⟨_, rfl, by have := Nat.mod_lt a2 (show 0 < n + 1 by omega); omega⟩
  obtain ⟨s, HS, hs⟩ : ∃ s : Nat, Hid (a3 % (k + 1) = s) ∧ s ≤ k := ⟨_, rfl, by have := Nat.mod_lt a3 (show 0 < k + 1 by omega); omega⟩
  obtain ⟨d, HD, hd, hd2⟩ : ∃ d : Nat, Hid (p + q + 1 = d) ∧ p < d ∧ d ≤ 8589934592 := ⟨_, rfl, by omega, by omega⟩
  have e1 : (a1 : Int) % 513 = (n : Int) := by have := HN.out; omega
  have e2 : (a2 : Int) % ((n : Int) + 1) = (k : Int) := by have := HK.out; rw [← this]; simp
  have e3 : (a3 : Int) % ((k : Int) + 1) = (s : Int) := by have := HS.out; rw [← this]; simp
  have e4 : (p : Int) + (q : Int) + 1 = (d : Int) := by have := HD.out; omega
  obtain ⟨h, Hh, hhp⟩ : ∃ h : Nat, Hid (p / 2 = h) ∧ h ≤ p := ⟨_, rfl, by omega⟩
  have e5 : (p : Int) / 2 = (h : Int) := by have := Hh.out; omega
  obtain ⟨b, hb⟩ : ∃ b, bsN (possN n k s p d) s n = b := ⟨_, rfl⟩
  obtain ⟨B1, B2, B3, B4⟩ := bsN_spec (poss_anti n k s p d) n s n (by omega) (by omega) (Nat.le_refl _) (poss_low (by omega) hk hd)
  obtain ⟨b2, hb2⟩ : ∃ b, bsN (possN n k s h d) s n = b := ⟨_, rfl⟩
  obtain ⟨_, C2, C3, C4⟩ := bsN_spec (poss_anti n k s h d) n s n (by omega) (by omega) (Nat.le_refl _) (poss_low (by omega) hk (by omega))
  rw [hb] at B1 B2 B3 B4
  rw [hb2] at C2 C3 C4
  have hD0 : 0 < Cn n k := Cn_pos hk
  have hbb2 : b ≤ b2 := C4 b B2 (by
    simp only [possN, decide_eq_true_eq] at B3 ⊢
    exact Nat.lt_of_le_of_lt (Nat.mul_le_mul_right _ (by omega)) B3)
  have B3' : possN n k s p d b = true := B3
  simp only [possN, decide_eq_true_eq] at B3
  have c1 : ordI (Wn n b k ((s : Int) + 1).toNat * d) (p * Cn n k) = 1 := by
    rw [show ((s : Int) + 1).toNat = s + 1 by omega]
    exact ordI_gt B3
  have c2 : b < n → ordI (Wn n (b + 1) k ((s : Int) + 1).toNat * d) (p * Cn n k) ≤ 0 := fun h => by
    rw [show ((s : Int) + 1).toNat = s + 1 by omega]
    refine ordI_le (Nat.le_of_not_lt fun hh => ?_)
    have := B4 (b + 1) (by omega) (by simp only [possN, decide_eq_true_eq]; exact hh)
    omega
  have hx : s < k → b ≤ bsN (possN n k (s + 1) p d) (s + 1) n := fun hsk => by
    obtain ⟨_, _, _, D4⟩ := bsN_spec (poss_anti n k (s + 1) p d) n (s + 1) n (by omega) (by omega) (Nat.le_refl _) (poss_low (by omega) hk hd)
    refine D4 b B2 ?_
    simp only [possN, decide_eq_true_eq]
    exact Nat.lt_of_lt_of_le B3 (Nat.mul_le_mul_right _ (Wn_mono _ _ _ (by omega)))
  have HX := hide hx
  have HB := hide hb
  have HB2 := hide hb2
  have HC1 := hide c1
  have HC2 := hide c2
  have HB3 := hide B3'
  clear hb hb2 c1 c2 B3 B3' B4 C3 C4 hx
  go_enter Try.func11, Try.ntmps11
  go_wp2_with fail
  refine (rof_c d w (by omega)).mono ?_
  rintro e w1 ⟨A1, n1, m1, l1, rfl, s1, N1, hb1⟩
  go_wp2_with fail
  refine (rof_c p w1 (by omega)).mono ?_
  rintro e w2 ⟨A2, n2, m2, l2, rfl, s2, N2, hb2⟩
  have s1' := (s1.below hb2).mono hb2.size
  have hw2 := hb1.trans (hb2.mono hb1.size)
  have hn1 : n1 ≤ 64 := by rw [← s1.len]; exact (N1.length_le (by omega) 64).2 (by omega)
  have hn2 : n2 ≤ 64 := by rw [← s2.len]; exact (N2.length_le (by omega) 64).2 (by omega)
  clear s1 hb1 hb2
  have XE := Blk.new w2 25 #[.slice A2 n2 m2, .slice A1 n1 m1]
  have ha := (Below.refl w2.heap.size w2).alloc (Nat.le_refl _) (.cells #[.slice A2 n2 m2, .slice A1 n1 m1] 25)
  obtain ⟨E0, E1⟩ := XE.two_cells
  go_wp2_with fail
  generalize w2.alloc (.cells #[.slice A2 n2 m2, .slice A1 n1 m1] 25) = w3 at *
  have s1c := (s1'.below ha).mono ha.size
  have s2c := (s2.below ha).mono ha.size
  have hw3 := hw2.trans (ha.mono hw2.size)
  clear s1' s2 ha hw2
  have tb := bound_ok n k s p d ⟨A2, n2, m2, l2, A1, n1, m1, l1⟩ w3 ⟨s2c, s1c, N2.dig, N1.dig⟩ hn hk hs N2 N1 hn2 hn1 hd
  rw [HB.out] at tb
  refine tb.mono ?_
  rintro e w4 ⟨rfl, hb4⟩
  have XE4 := XE.keep hb4
  have s1d := (s1c.below hb4).mono hb4.size
  have s2d := (s2c.below hb4).mono hb4.size
  have hw4 := hw3.trans (hb4.mono hw3.size)
  clear XE E0 E1 s1c s2c hw3 hb4 tb
  have hnb : ¬ (n : Int) < (b : Int) := by omega
  have hbs : ¬ (b : Int) < (s : Int) := by omega
  go_wp2_with fail
  refine (tail_ok n b k s w4 hn B2 hk (by omega) (by omega)).mono ?_
  rintro e w5 ⟨f, rfl, hf, f1, f2, fl1, fl2, hb5⟩
  have XE5 := XE4.keep hb5
  have s1e := (s1d.below hb5).mono hb5.size
  have s2e := (s2d.below hb5).mono hb5.size
  have hw5 := hw4.trans (hb5.mono hw4.size)
  clear XE4 s1d s2d hw4 hb5
  have XF := Blk.new w5 25 #[.slice f.A f.n f.c, .slice f.A' f.n' f.c']
  have ha := (Below.refl w5.heap.size w5).alloc (Nat.le_refl _) (.cells #[.slice f.A f.n f.c, .slice f.A' f.n' f.c'] 25)
  obtain ⟨F0, F1⟩ := XF.two_cells
  obtain ⟨E0, E1⟩ := (XE5.keep ha).two_cells
  have gEF : w2.heap.size < w5.heap.size := XE5.lt
  go_wp2_with fail
  generalize w5.alloc (.cells #[.slice f.A f.n f.c, .slice f.A' f.n' f.c'] 25) = w6 at *
  have XE6 := XE5.keep ha
  have s1f := (s1e.below ha).mono ha.size
  have s2f := (s2e.below ha).mono ha.size
  have hf6 := (hf.below ha).mono ha.size
  have hw6 := hw5.trans (ha.mono hw5.size)
  have hv6 := ha
  have hw5s := hw5.size
  clear XE5 hf ha hw5
  obtain ⟨z1, z1e⟩ := cmp_eps (g := ⟨A2, n2, m2, l2, A1, n1, m1, l1⟩) f1 f2 N2 N1 fl1 fl2 hn2 hn1 hD0 (by omega)
  have tt := xfcompare_c f ⟨A2, n2, m2, l2, A1, n1, m1, l1⟩ w6 _ hf6 ⟨s2f, s1f, N2.dig, N1.dig⟩ (Nat.le_refl _)
  rw [z1e, z1, HC1.out] at tt
  refine tt.mono ?_
  rintro e w7 ⟨rfl, hb7⟩
  have XE7 := XE6.keep hb7
  have XF7 := XF.keep hb7
  have hv7 := hv6.trans (hb7.mono hv6.size)
  have hw7 := hw6.trans (hb7.mono hw6.size)
  clear XE6 XF s1f s2f hf6 hw6 hb7 tt z1 z1e E0 E1 F0 F1 f1 f2 fl1 fl2
  rcases Nat.lt_or_ge b n with hbn | hbn
  case' inl =>
    go_wp2_with fail
    have hlt7 := XF7.lt
    refine (tail_f n (b + 1) k s w7 hn (by omega) hk (by omega) (by omega)).mono ?_
    rintro e w8 ⟨f', rfl, hf, f1, f2, fl1, fl2, hb8, fr1, fr2⟩
    have XE8 := XE7.keep hb8
    have XF8 := XF7.keep hb8
    have hv8 := hv7.trans (hb8.mono hv7.size)
    have hw8 := hw7.trans (hb8.mono hw7.size)
    obtain ⟨F0, F1⟩ := XF8.two_cells
    have Z0 := XF8.frozen 0
    have Z1 := XF8.frozen 1
    have XF9 := XF8.two (.slice f'.A f'.n f'.c) (.slice f'.A' f'.n' f'.c')
    have XE9 := (XE8.far (p := ⟨w5.heap.size, 0, none⟩) (by show w2.heap.size ≠ w5.heap.size; omega) (.slice f'.A f'.n f'.c)).far (p := ⟨w5.heap.size, 1, none⟩) (by show w2.heap.size ≠ w5.heap.size; omega) (.slice f'.A' f'.n' f'.c')
    obtain ⟨G0, G1⟩ := XF9.two_cells
    obtain ⟨E0, E1⟩ := XE9.two_cells
    have hv9 := (hv8.setCell (p := ⟨w5.heap.size, 0, none⟩) (Nat.le_refl _) (.slice f'.A f'.n f'.c)).setCell (p := ⟨w5.heap.size, 1, none⟩) (Nat.le_refl _) (.slice f'.A' f'.n' f'.c')
    have hw9 := (hw8.setCell (p := ⟨w5.heap.size, 0, none⟩) (by show w.heap.size ≤ w5.heap.size; exact hw5s) (.slice f'.A f'.n f'.c)).setCell (p := ⟨w5.heap.size, 1, none⟩) (by show w.heap.size ≤ w5.heap.size; exact hw5s) (.slice f'.A' f'.n' f'.c')
    have hn9 := (hf.num.two (g := w5.heap.size) (fun g o e _ => by have := fr1 g o e; omega) (.slice f'.A f'.n f'.c) (.slice f'.A' f'.n' f'.c'))
    have hd9 := (hf.den.two (g := w5.heap.size) (fun g o e _ => by have := fr2 g o e; omega) (.slice f'.A f'.n f'.c) (.slice f'.A' f'.n' f'.c'))
    have hsz9 : ((w8.setCell ⟨w5.heap.size, 0, none⟩ (.slice f'.A f'.n f'.c)).setCell ⟨w5.heap.size, 1, none⟩ (.slice f'.A' f'.n' f'.c')).heap.size = w8.heap.size := by simp
    go_wp2_with fail
    generalize (w8.setCell ⟨w5.heap.size, 0, none⟩ (.slice f'.A f'.n f'.c)).setCell ⟨w5.heap.size, 1, none⟩ (.slice f'.A' f'.n' f'.c') = w9 at *
    rw [← hsz9] at hn9 hd9
    obtain ⟨z1, z1e⟩ := cmp_eps (g := ⟨A2, n2, m2, l2, A1, n1, m1, l1⟩) f1 f2 N2 N1 fl1 fl2 hn2 hn1 hD0 (by omega)
    have tt := xfcompare_c f' ⟨A2, n2, m2, l2, A1, n1, m1, l1⟩ w9 _ ⟨hn9, hd9, f1.dig, f2.dig⟩ ⟨(s2e.below hv9).mono hv9.size, (s1e.below hv9).mono hv9.size, N2.dig, N1.dig⟩ (Nat.le_refl _)
    obtain ⟨z, hz, hz0⟩ : ∃ z, ordI (Wn n (b + 1) k ((s : Int) + 1).toNat * d) (p * Cn n k) = z ∧ z ≤ 0 := ⟨_, rfl, HC2.out hbn⟩
    rw [z1e, z1, hz] at tt
    clear hz z1 z1e
    refine tt.mono ?_
    rintro e wA ⟨rfl, hbA⟩
    have XEA := XE9.keep hbA
    have hvA := hv9.trans (hbA.mono hv9.size)
    have hwA := hw9.trans (hbA.mono hw9.size)
    clear tt hbA hw9 hv9 XE9 XF9 XF8 XE8 F0 F1 G0 G1 E0 E1 Z0 Z1 hf f1 f2 fl1 fl2 fr1 fr2 hn9 hd9 hsz9 hv8 hw8 hv7 XF7
    go_wp2_with fail
  case' inr =>
    obtain ⟨wA, rfl⟩ : ∃ wA : World, wA = w7 := ⟨_, rfl⟩
    have XEA := XE7
    have hvA := hv7
    have hwA := hw7
    clear XE7 hv7 hw7 XF7
    go_wp2_with fail
  all_goals
    refine (rof_c h wA (by omega)).mono ?_
    rintro e wB ⟨A5, n5, m5, l5, rfl, s5, N5, hbB⟩
    have hvB := hvA.trans (hbB.mono hvA.size)
    have hwB := hwA.trans (hbB.mono hwA.size)
    have XEB := XEA.keep hbB
    have hn5 : n5 ≤ 64 := by rw [← s5.len]; exact (N5.length_le (by omega) 64).2 (by omega)
    have ha := (Below.refl wB.heap.size wB).alloc (Nat.le_refl _) (.cells #[.slice A5 n5 m5, .slice A1 n1 m1] 25)
    obtain ⟨H0, H1⟩ := (Blk.new wB 25 #[.slice A5 n5 m5, .slice A1 n1 m1]).two_cells
    clear hvA hwA XEA hbB
    go_wp2_with fail
    generalize wB.alloc (.cells #[.slice A5 n5 m5, .slice A1 n1 m1] 25) = wC at *
    have XEC := XEB.keep ha
    have hvC := hvB.trans (ha.mono hvB.size)
    have hwC := hwB.trans (ha.mono hwB.size)
    have tb := bound_ok n k s h d ⟨A5, n5, m5, l5, A1, n1, m1, l1⟩ wC ⟨(s5.below ha).mono ha.size, (s1e.below hvC).mono hvC.size, N5.dig, N1.dig⟩ hn hk hs N5 N1 hn5 hn1 (by omega)
    rw [HB2.out] at tb
    clear H0 H1 hvB hwB XEB
    refine tb.mono ?_
    rintro e wD ⟨rfl, hbD⟩
    have hvD := hvC.trans (hbD.mono hvC.size)
    have hwD := hwC.trans (hbD.mono hwC.size)
    obtain ⟨E0, E1⟩ := (XEC.keep hbD).two_cells
    have hb2b : ¬ (b2 : Int) < (b : Int) := by omega
    clear tb hvC hwC XEC hbD ha
    by_cases hsk : s < k
    · have hsk' : (s : Int) < (k : Int) := by omega
      have tb := bound_ok n k (s + 1) p d ⟨A2, n2, m2, l2, A1, n1, m1, l1⟩ wD ⟨(s2e.below hvD).mono hvD.size, (s1e.below hvD).mono hvD.size, N2.dig, N1.dig⟩ hn hk (by omega) N2 N1 hn2 hn1 hd
      obtain ⟨b3, hb3, hb3b⟩ : ∃ b3 : Nat, bsN (possN n k (s + 1) p d) (s + 1) n = b3 ∧ b ≤ b3 := ⟨_, rfl, HX.out hsk⟩
      rw [hb3] at tb
      clear hb3
      go_wp2_with fail
      refine tb.mono ?_
      rintro e wE ⟨rfl, hbE⟩
      have hwE := hwD.trans (hbE.mono hwD.size)
      clear tb hbE E0 E1
      go_wp2_with fail
      refine (works_c _).mono ?_
      rintro e wF ⟨rfl, hbF⟩
      go_wp2
      go_ret
      exact ⟨rfl, hwE.trans (hbF.mono hwE.size)⟩
    · have hsk' : ¬ (s : Int) < (k : Int) := by omega
      go_wp2_with fail
      refine (works_c _).mono ?_
      rintro e wF ⟨rfl, hbF⟩
      go_wp2
      go_ret
      exact ⟨rfl, hwD.trans (hbF.mono hwD.size)⟩
end Go.Proofs.Ytgilhkdmgbeieaa
