/- The walk of the law ExactTexts. -/
import Derived.Test.YtgilhkdmgbeieaaUd
import Derived.Test.YtgilhkdmgbeieaaNb
import Derived.Test.YtgilhkdmgbeieaaPb
import Derived.Test.YtgilhkdmgbeieaaWo
namespace Go.Proofs.Ytgilhkdmgbeieaa
open Go.RowKit

theorem SParse.text {X : Nat} {l : List Nat} {e : Int} (f : Fits X) (h : SParse (textN X) l e) : Num 4294967296 l X ∧ e = 0 := by
  rcases h with ⟨_, h2⟩ | ⟨h1, _⟩
  · rw [numD_text] at h2
    rcases h2 with ⟨_, h3, h4⟩ | ⟨h3, _⟩
    · exact ⟨h3, h4⟩
    · exact absurd f h3
  · exact absurd f.okD h1
theorem SFP.text {b l l' : List Nat} {e : Int} {X Y g : Nat} (hg : Nat.gcd X Y = g) (fX : Fits X) (fY : Fits Y) (hY : 0 < Y) (hb : b = textN (X / g) ++ 47 :: textN (Y / g)) (h : SFP b l l' e) :
    Num 4294967296 l (X / g) ∧ Num 4294967296 l' (Y / g) ∧ e = 0 := by
  have hgp : 0 < g := by rw [← hg]; exact Nat.gcd_pos_of_pos_right _ hY
  have hy : 0 < Y / g := Nat.div_pos (by rw [← hg]; exact Nat.gcd_le_right _ hY) hgp
  have h1 : Nat.gcd (X / g) (Y / g) = 1 := by
    have := Nat.gcd_div_gcd_div_gcd_of_pos_right (n := X) (m := Y) hY
    rwa [hg] at this
  have f1 : Fits (X / g) := fX.le (Nat.div_le_self _ _)
  have f2 : Fits (Y / g) := fY.le (Nat.div_le_self _ _)
  generalize X / g = x at *
  generalize Y / g = y at *
  have hc : CutAt b (textN x).length := by rw [hb]; exact cutAt_text _ _ (textN_digs x)
  rcases h with ⟨i, hi, hp⟩ | ⟨hn, _⟩
  · obtain rfl := hi.uniq hc
    have e1 : b.take (textN x).length = textN x := by rw [hb]; simp
    have e2 : b.drop ((textN x).length + 1) = textN y := by
      rw [hb, List.drop_append]
      simp
    rw [e1, e2] at hp
    have hF : FText b x y := ⟨hy, by rw [h1, Nat.div_one, Nat.div_one]; exact hb⟩
    rcases hp with ⟨hq, _⟩ | ⟨_, _, ⟨hq, _⟩ | ⟨_, _, ⟨_, n1, n2, he⟩ | ⟨hq, _⟩⟩⟩
    · exact absurd ⟨f1.okD, f2.okD⟩ hq
    · rw [numD_text, numD_text] at hq
      exact absurd ⟨f1, f2⟩ hq
    · rw [numD_text] at n1 n2
      exact ⟨n1, n2, he⟩
    · rw [numD_text, numD_text] at hq
      exact absurd hF hq
  · exact absurd hc (hn _)
theorem same_frac {X Y g : Nat} (hg : Nat.gcd X Y = g) : X / g * Y = X * (Y / g) := by
  have h1 : g ∣ X := hg ▸ Nat.gcd_dvd_left X Y
  have h2 : g ∣ Y := hg ▸ Nat.gcd_dvd_right X Y
  obtain ⟨x, rfl⟩ := h1
  obtain ⟨y, rfl⟩ := h2
  rcases Nat.eq_zero_or_pos g with rfl | hp
  · simp
  · rw [Nat.mul_div_cancel_left _ hp, Nat.mul_div_cancel_left _ hp]
    grind

set_option maxRecDepth 100000 in
set_option maxHeartbeats 6400000 in
theorem texts_w (w : World) (A0 : Option Addr) (m0 k0 : Nat) (l0 : List Nat) (sa : Sl w w.heap.size .u32 A0 m0 k0 l0) (da : Digs 4294967296 l0) (A1 : Option Addr) (m1 k1 : Nat) (l1 : List Nat) (sb : Sl w w.heap.size .u32 A1 m1 k1 l1) (db : Digs 4294967296 l1) :
    Calls Try.prog 16 #[.slice A0 m0 k0, .slice A1 m1 k1] w fun e w' => e = .returned (.bool true) ∧ Below w.heap.size w w' := by
  have hw := Below.refl w.heap.size w
  go_enter Try.func16, Try.ntmps16
  go_wp2_with fail
  refine (lshort_c _ _ _ 64 _ _ sa da (by omega)).mono ?_
  rintro e w1 ⟨Aa, na, ca, X, rfl, Ha, hb⟩
  replace hw := hw.trans (hb.mono hw.size)
  clear hb
  go_wp2_with fail
  refine (lshort_c _ _ _ 64 _ _ (sb.below hw |>.mono hw.size) db (by omega)).mono ?_
  rintro e w2 ⟨Ab, nb, cb, Y, rfl, Hb, hb⟩
  replace Ha := Ha.below hb
  replace hw := hw.trans (hb.mono hw.size)
  clear hb sa sb da db
  obtain ⟨hna, la, sa, da, rfl⟩ := Ha
  obtain ⟨hnb, lb, sb, db, rfl⟩ := Hb
  have fX := sa.fits da hna
  have fY := sb.fits db hnb
  obtain ⟨X, hX⟩ : ∃ X, val 4294967296 la = X := ⟨_, rfl⟩
  obtain ⟨Y, hY⟩ : ∃ Y, val 4294967296 lb = Y := ⟨_, rfl⟩
  rw [hX] at fX
  rw [hY] at fY
  have t1 := xtext_c _ _ _ _ w2 _ sa (Nat.le_refl _) da
  rw [if_pos hna, if_pos hna, hX] at t1
  obtain ⟨s, hs⟩ : ∃ s, strN (textN X) = s := ⟨_, rfl⟩
  rw [hs] at t1
  have hss : s.size ≤ 617 := by rw [← hs, strN_size]; exact fX.text
  have hbs : bytesN s = textN X := by rw [← hs]; exact bytesN_strN fun x hx => by have := textN_digs X x hx; omega
  have HBS := hide hbs
  clear hs hbs
  go_wp2_with fail
  refine t1.mono ?_
  rintro e w3 ⟨rfl, hb⟩
  replace sa := (sa.below hb).mono hb.size
  replace sb := (sb.below hb).mono hb.size
  replace hw := hw.trans (hb.mono hw.size)
  clear t1 hb
  go_wp2_with fail
  refine (xparse_c s w3 (by omega)).mono ?_
  rintro e w4 ⟨A4, n4, c4, l4, e4, rfl, s4, S4, hb⟩
  rw [HBS.out] at S4
  obtain ⟨N4, rfl⟩ := S4.text fX
  replace sa := (sa.below hb).mono hb.size
  replace sb := (sb.below hb).mono hb.size
  replace hw := hw.trans (hb.mono hw.size)
  clear S4 hb
  go_wp2_with fail
  refine (xnorm_c _ _ _ _ _ _ sa (Nat.le_refl _) da).mono ?_
  rintro e w5 ⟨A5, n5, c5, l5, e5, rfl, s5, S5, hb⟩
  replace sa := (sa.below hb).mono hb.size
  replace sb := (sb.below hb).mono hb.size
  replace s4 := (s4.below hb).mono hb.size
  replace hw := hw.trans (hb.mono hw.size)
  have hle : l4 = l5 := by
    rcases S5 with ⟨_, h1, _⟩ | ⟨h1, _⟩
    · rw [hX] at h1
      exact N4.uniq h1 (by omega)
    · exact absurd hna h1
  clear S5 hb
  have t2 := rsame_c _ _ _ _ _ _ _ _ w5 _ s4 s5
  rw [decide_eq_true hle] at t2
  go_wp2_with fail
  refine t2.mono ?_
  rintro e w6 ⟨rfl, q, hq⟩
  have hb : Below w5.heap.size w5 w6 := hq ▸ below_drewN (Below.refl _ _) q
  replace sa := (sa.below hb).mono hb.size
  replace sb := (sb.below hb).mono hb.size
  replace hw := hw.trans (hb.mono hw.size)
  clear t2 hb hq
  have t3 := xbits_c _ _ _ _ w6 _ sb db
  rw [if_pos hnb, if_pos hnb, hY] at t3
  rcases Nat.eq_zero_or_pos Y with h0 | hp
  · rw [h0, bitsN_zero] at t3
    go_wp2_with fail
    refine t3.mono ?_
    rintro e w' ⟨rfl, rfl⟩
    go_wp2_with fail
    refine (works_c _).mono ?_
    rintro e w7 ⟨rfl, hb⟩
    go_wp2
    go_ret
    exact ⟨rfl, hw.trans (hb.mono hw.size)⟩
  · obtain ⟨z, hz⟩ : ∃ z, bitsN Y = z := ⟨_, rfl⟩
    have hz0 := bitsN_pos hp
    rw [hz] at t3 hz0
    have hzi : ¬ ((z : Nat) : Int) = 0 := by omega
    clear hz
    go_wp2_with fail
    refine t3.mono ?_
    rintro e w' ⟨rfl, rfl⟩
    clear t3
    obtain ⟨g, hg⟩ : ∃ g, Nat.gcd X Y = g := ⟨_, rfl⟩
    go_wp2_with fail
    refine (fracText_c ⟨Aa, na, ca, la, Ab, nb, cb, lb⟩ w6 _ ⟨sa, sb, da, db⟩ (Nat.le_refl _)).mono ?_
    rintro e w7 ⟨tx, er, rfl, HT, hb⟩
    replace sa := (sa.below hb).mono hb.size
    replace sb := (sb.below hb).mono hb.size
    replace hw := hw.trans (hb.mono hw.size)
    clear hb
    obtain ⟨rfl, hbt⟩ : er = 0 ∧ bytesN tx = textN (X / g) ++ 47 :: textN (Y / g) := by
      rcases HT.read hna hnb hX hY fX fY with ⟨h1, _, h2⟩ | ⟨_, h2⟩
      · rw [hg] at h2
        exact ⟨h1, h2⟩
      · omega
    have hts : tx.size ≤ 1235 := by
      have h := congrArg List.length hbt
      rw [bytesN_length, List.length_append, List.length_cons] at h
      have h1 := (fX.le (Nat.div_le_self X g)).text
      have h2 := (fY.le (Nat.div_le_self Y g)).text
      omega
    have HB := hide hbt
    clear hbt HT
    go_wp2_with fail
    refine (xfracparse_c tx w7 (by omega)).mono ?_
    rintro e w8 ⟨A8, n8, c8, l8, A9, n9, c9, l9, e8, rfl, s8, s9, S8, hb⟩
    obtain ⟨N8, N9, rfl⟩ := S8.text hg fX fY hp HB.out
    replace sa := (sa.below hb).mono hb.size
    replace sb := (sb.below hb).mono hb.size
    replace hw := hw.trans (hb.mono hw.size)
    clear hb S8
    go_wp2_with fail
    obtain ⟨w9, h9⟩ : ∃ w9, w8.alloc (.cells #[.slice A8 n8 c8, .slice A9 n9 c9] 25) = w9 := ⟨_, rfl⟩
    have hb := (Below.refl w8.heap.size w8).alloc (Nat.le_refl _) (.cells #[.slice A8 n8 c8, .slice A9 n9 c9] 25)
    rw [h9] at hb ⊢
    clear h9
    replace sa := (sa.below hb).mono hb.size
    replace sb := (sb.below hb).mono hb.size
    replace s8 := (s8.below hb).mono hb.size
    replace s9 := (s9.below hb).mono hb.size
    replace hw := hw.trans (hb.mono hw.size)
    clear hb
    have hgp : 0 < g := by rw [← hg]; exact Nat.gcd_pos_of_pos_right _ hp
    have hy : 0 < Y / g := Nat.div_pos (by rw [← hg]; exact Nat.gcd_le_right _ hp) hgp
    have hn8 : n8 ≤ 64 := by rw [← s8.len]; exact N8.fits.2 (fX.le (Nat.div_le_self _ _))
    have hn9 : n9 ≤ 64 := by rw [← s9.len]; exact N9.fits.2 (fY.le (Nat.div_le_self _ _))
    have t4 := xfcompare_c ⟨A8, n8, c8, l8, A9, n9, c9, l9⟩ ⟨Aa, na, ca, la, Ab, nb, cb, lb⟩ w9 _ ⟨s8, s9, N8.dig, N9.dig⟩ ⟨sa, sb, da, db⟩ (Nat.le_refl _)
    have he : errV [⟨A8, n8, c8, l8, A9, n9, c9, l9⟩, ⟨Aa, na, ca, la, Ab, nb, cb, lb⟩] = 0 := by
      have a1 : val 4294967296 l9 ≠ 0 := by rw [N9.val_]; omega
      have a2 : val 4294967296 lb ≠ 0 := by rw [hY]; omega
      simp [errV, FA.long, FA.zero, hn8, hn9, hna, hnb, a1, a2]
    have hf : fcmpV ⟨A8, n8, c8, l8, A9, n9, c9, l9⟩ ⟨Aa, na, ca, la, Ab, nb, cb, lb⟩ = 0 := by
      unfold fcmpV
      rw [if_pos he, N8.val_, N9.val_, hX, hY, same_frac hg]
      simp [ordI]
    rw [he, hf] at t4
    refine t4.mono ?_
    rintro e w10 ⟨rfl, hb⟩
    replace hw := hw.trans (hb.mono hw.size)
    clear hb t4 he hf
    go_wp2_with fail
    refine (works_c _).mono ?_
    rintro e w11 ⟨rfl, hb⟩
    go_wp2
    go_ret
    exact ⟨rfl, hw.trans (hb.mono hw.size)⟩
end Go.Proofs.Ytgilhkdmgbeieaa
