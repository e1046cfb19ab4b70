/- The contracts of the reference's Parse, FracParse. -/
import Derived.Test.YtgilhkdmgbeieaaUe
import Derived.Test.YtgilhkdmgbeieaaTf
namespace Go.Proofs.Ytgilhkdmgbeieaa
open Go.RowKit

theorem okD_len8 {b l : List Nat} (h : okD b) (N : Num 256 l (numD b)) : l.length ≤ 617 := by
  have h1 := numD_lt b.length b (fun x hx => h.2.2.1 x (List.mem_of_mem_take hx))
  rw [List.take_of_length_le (Nat.le_refl _)] at h1
  exact Nat.le_trans ((N.length_le (by omega) b.length).2 (Nat.lt_of_lt_of_le h1 (Nat.pow_le_pow_left (by omega) _))) h.2.1

set_option maxRecDepth 100000 in
set_option maxHeartbeats 800000 in
theorem rparse_c (s : ByteArray) (w : World) (hs : s.size ≤ 9223372036854775807) :
    Calls Try.prog 68 #[.string s] w (NumV w (SParse (bytesN s))) := by
  go_enter Try.func68, Try.ntmps68
  go_wp2_with fail
  refine (rread_c s w hs).mono ?_
  rintro e w1 ⟨A, n, c, l, ok, rfl, s1, ⟨h1, rfl, N1⟩ | ⟨h1, rfl⟩, hb⟩
  · go_wp2_with fail
    refine (rresult_c _ _ _ _ _ w1 s1 N1).mono ?_
    rintro e w2 ⟨A2, n2, c2, l2, e2, rfl, s2, S2, hb2⟩
    go_wp2
    go_ret2
    exact ⟨_, _, _, _, _, rfl, s2, .inl ⟨h1, S2⟩, hb.trans (hb2.mono hb.size)⟩
  · go_wp2
    go_ret2
    exact ⟨_, _, _, _, _, rfl, Sl.nil _ _ _ _ _ (by omega), .inr ⟨h1, rfl, rfl⟩, hb⟩

set_option maxRecDepth 100000 in
set_option maxHeartbeats 6400000 in
theorem rfracparse_c (s : ByteArray) (w : World) (hs : s.size ≤ 9223372036854775806) :
    Calls Try.prog 70 #[.string s] w (FracV w (SFP (bytesN s))) := by
  have hR := Blk.new w 25 #[.slice none 0 0, .slice none 0 0]
  have hb := (Below.refl w.heap.size w).alloc (Nat.le_refl _) (.cells #[.slice none 0 0, .slice none 0 0] 25)
  have hs1 : (w.alloc (.cells #[.slice none 0 0, .slice none 0 0] 25)).heap.size = w.heap.size + 1 := by simp
  have hbc : ∀ i (h : i < s.size), ∃ x, (s[i]'h).toNat = x ∧ Hid ((bytesN s).getD i 0 = x) ∧ x < 256 := fun i h => by
    refine ⟨_, rfl, ?_, (s[i]'h).toNat_lt⟩
    show (bytesN s).getD i 0 = _
    rw [bytesN_at s i h]
  have HBC := hide hbc
  clear hbc
  go_enter Try.func70, Try.ntmps70
  go_wp2_with fail
  obtain ⟨w1, h1⟩ : ∃ w1, (w.alloc (.cells #[.slice none 0 0, .slice none 0 0] 25)) = w1 := ⟨_, rfl⟩
  rw [h1] at hR hb hs1 ⊢
  clear h1
  go_loopw [4] (fun iv wr => ∃ i : Nat, i ≤ s.size ∧ iv = .int .i64 i ∧ Hid (∀ j, j < i → (bytesN s).getD j 0 ≠ 47) ∧ (∃ q, wr = w1.drewN q))
    (fun iv _ => s.size - (intOf iv).toNat)
  case atStart => exact ⟨0, Nat.zero_le _, rfl, fun j hj => absurd hj (Nat.not_lt_zero _), 0, rfl⟩
  case round =>
    obtain ⟨i, hi, rfl, HI, q, rfl⟩ := hrel
    by_cases hlt : i < s.size
    · obtain ⟨x, hx, HX, hx256⟩ := HBC.out i hlt
      have hlti : (i : Int) < (s.size : Int) := by omega
      by_cases h47 : x = 47
      · subst h47
        have HC : Hid (CutAt (bytesN s) i) := ⟨by rw [bytesN_length]; exact hlt, HX.out, HI.out⟩
        have hi1 : (i : Int) ≤ (s.size : Int) := by omega
        have hi2 : (i : Int) + 1 ≤ (s.size : Int) := by omega
        have hi3 : ¬ (i : Int) = (s.size : Int) := by omega
        have hbx := bytesN_left s i
        have hby := bytesN_right s (i + 1)
        obtain ⟨X, hX⟩ : ∃ X, s.extract 0 i = X := ⟨_, rfl⟩
        obtain ⟨Y, hY⟩ : ∃ Y, s.extract (i + 1) s.size = Y := ⟨_, rfl⟩
        rw [hX] at hbx
        rw [hY] at hby
        have hXs : X.size ≤ 9223372036854775807 := by
          have h := congrArg List.length hbx
          rw [bytesN_length, List.length_take, bytesN_length] at h
          omega
        have hYs : Y.size ≤ 9223372036854775807 := by
          have h := congrArg List.length hby
          rw [bytesN_length, List.length_drop, bytesN_length] at h
          omega
        have HBX := hide hbx
        have HBY := hide hby
        have HX2 := hide hX
        have HY2 := hide hY
        clear hbx hby hX hY
        have hR2 := hR.drewN q
        have hb2 := below_drewN hb q
        have hs2 : (w1.drewN q).heap.size = w.heap.size + 1 := hs1
        clear hR hb
        generalize w1.drewN q = w2 at *
        go_wp2_with fail
        try rw [HX2.out]
        refine (rread_c X _ hXs).mono ?_
        rintro e w3 ⟨A1, n1, c1, l1, ok1, rfl, s1, S1, hb⟩
        replace hR2 := hR2.keep hb
        have hs3 := hb.size
        replace hb2 := hb2.trans (hb.mono (by omega))
        clear hb
        rw [HBX.out] at S1
        go_wp2_with fail
        try rw [HY2.out]
        refine (rread_c Y w3 hYs).mono ?_
        rintro e w4 ⟨A2, n2, c2, l2, ok2, rfl, s2, S2, hb⟩
        replace hR2 := hR2.keep hb
        have hs4 := hb.size
        replace hb2 := hb2.trans (hb.mono (by omega))
        replace s1 := (s1.below hb).mono hb.size
        rw [HBY.out] at S2
        clear hb
        obtain ⟨hc0, hc1⟩ := hR2.cells2
        have hf0 := hR2.frozen 0
        have hf1 := hR2.frozen 1
        rcases S1 with ⟨h1, rfl, N1⟩ | ⟨h1, rfl⟩
        rotate_left
        · go_wp2
          have hR8 := hR2.two (.slice none 0 0) (.slice none 0 0)
          have hb8 := below_two hb2 (Nat.le_refl _) (.slice none 0 0) (.slice none 0 0)
          generalize (w4.setCell ⟨w.heap.size, 0, none⟩ (.slice none 0 0)).setCell ⟨w.heap.size, 1, none⟩ (.slice none 0 0) = w8 at *
          obtain ⟨q0, q1⟩ := hR8.cells2
          refine bodyPost_ret (v := .tuple #[.agg #[.slice none 0 0, .slice none 0 0], .int .i64 6]) (by simp [results, Try.results70, go_sem, q0, q1]) rfl ?_
          exact ⟨_, _, _, _, _, _, _, _, _, rfl, Sl.nil _ _ _ _ _ (by omega), Sl.nil _ _ _ _ _ (by omega), .inl ⟨_, HC.out, .inl ⟨fun h => h1 h.1, rfl, rfl, rfl⟩⟩, hb8⟩
        rcases S2 with ⟨h2, rfl, N2⟩ | ⟨h2, rfl⟩
        rotate_left
        · go_wp2
          have hR8 := hR2.two (.slice none 0 0) (.slice none 0 0)
          have hb8 := below_two hb2 (Nat.le_refl _) (.slice none 0 0) (.slice none 0 0)
          generalize (w4.setCell ⟨w.heap.size, 0, none⟩ (.slice none 0 0)).setCell ⟨w.heap.size, 1, none⟩ (.slice none 0 0) = w8 at *
          obtain ⟨q0, q1⟩ := hR8.cells2
          refine bodyPost_ret (v := .tuple #[.agg #[.slice none 0 0, .slice none 0 0], .int .i64 6]) (by simp [results, Try.results70, go_sem, q0, q1]) rfl ?_
          exact ⟨_, _, _, _, _, _, _, _, _, rfl, Sl.nil _ _ _ _ _ (by omega), Sl.nil _ _ _ _ _ (by omega), .inl ⟨_, HC.out, .inl ⟨fun h => h2 h.2, rfl, rfl, rfl⟩⟩, hb8⟩
        have hn1 : n1 ≤ 617 := by rw [← s1.len]; exact okD_len8 h1 N1
        have hn2 : n2 ≤ 617 := by rw [← s2.len]; exact okD_len8 h2 N2
        clear hc0 hc1 hf0 hf1
        go_wp2_with fail
        refine (rfits_c _ _ _ _ _ w4 _ s1 N1).mono ?_
        rintro e w' ⟨rfl, ⟨f1, hk1, rfl⟩ | ⟨f1, rfl⟩⟩
        rotate_left
        · obtain ⟨hc0, hc1⟩ := hR2.cells2
          have hf0 := hR2.frozen 0
          have hf1 := hR2.frozen 1
          go_wp2
          have hR8 := hR2.two (.slice none 0 0) (.slice none 0 0)
          have hb8 := below_two hb2 (Nat.le_refl _) (.slice none 0 0) (.slice none 0 0)
          generalize (w4.setCell ⟨w.heap.size, 0, none⟩ (.slice none 0 0)).setCell ⟨w.heap.size, 1, none⟩ (.slice none 0 0) = w8 at *
          obtain ⟨q0, q1⟩ := hR8.cells2
          refine bodyPost_ret (v := .tuple #[.agg #[.slice none 0 0, .slice none 0 0], .int .i64 8]) (by simp [results, Try.results70, go_sem, q0, q1]) rfl ?_
          exact ⟨_, _, _, _, _, _, _, _, _, rfl, Sl.nil _ _ _ _ _ (by omega), Sl.nil _ _ _ _ _ (by omega), .inl ⟨_, HC.out, .inr ⟨h1, h2, .inl ⟨fun h => f1 h.1, rfl, rfl, rfl⟩⟩⟩, hb8⟩
        go_wp2_with fail
        refine (rfits_c _ _ _ _ _ w4 _ s2 N2).mono ?_
        rintro e w' ⟨rfl, ⟨f2, hk2, rfl⟩ | ⟨f2, rfl⟩⟩
        rotate_left
        · obtain ⟨hc0, hc1⟩ := hR2.cells2
          have hf0 := hR2.frozen 0
          have hf1 := hR2.frozen 1
          go_wp2
          have hR8 := hR2.two (.slice none 0 0) (.slice none 0 0)
          have hb8 := below_two hb2 (Nat.le_refl _) (.slice none 0 0) (.slice none 0 0)
          generalize (w4.setCell ⟨w.heap.size, 0, none⟩ (.slice none 0 0)).setCell ⟨w.heap.size, 1, none⟩ (.slice none 0 0) = w8 at *
          obtain ⟨q0, q1⟩ := hR8.cells2
          refine bodyPost_ret (v := .tuple #[.agg #[.slice none 0 0, .slice none 0 0], .int .i64 8]) (by simp [results, Try.results70, go_sem, q0, q1]) rfl ?_
          exact ⟨_, _, _, _, _, _, _, _, _, rfl, Sl.nil _ _ _ _ _ (by omega), Sl.nil _ _ _ _ _ (by omega), .inl ⟨_, HC.out, .inr ⟨h1, h2, .inl ⟨fun h => f2 h.2, rfl, rfl, rfl⟩⟩⟩, hb8⟩
        go_wp2_with fail
        refine (rnat_c _ _ _ _ _ w4 _ s1 (Nat.le_refl _) N1 (by omega)).mono ?_
        rintro e w5 ⟨A5, n5, c5, l5, rfl, s5, N5, hb, F1⟩
        replace hR2 := hR2.keep hb
        have hs5 := hb.size
        replace hb2 := hb2.trans (hb.mono (by omega))
        replace s2 := (s2.below hb).mono hb.size
        clear hb
        go_wp2_with fail
        refine (rnat_c _ _ _ _ _ w5 _ s2 (Nat.le_refl _) N2 (by omega)).mono ?_
        rintro e w6 ⟨A6, n6, c6, l6, rfl, s6, N6, hb, F2⟩
        replace hR2 := hR2.keep hb
        have hs6 := hb.size
        replace hb2 := hb2.trans (hb.mono (by omega))
        replace s5 := (s5.below hb).mono hb.size
        clear hb s1 s2
        have hk5 : n5 ≤ 64 := by rw [← s5.len]; exact N5.fits.2 f1
        have hk6 : n6 ≤ 64 := by rw [← s6.len]; exact N6.fits.2 f2
        go_wp2_with fail
        obtain ⟨w7, h7⟩ : ∃ w7, w6.alloc (.cells #[.slice A5 n5 c5, .slice A6 n6 c6] 25) = w7 := ⟨_, rfl⟩
        have hN := Blk.new w6 25 #[.slice A5 n5 c5, .slice A6 n6 c6]
        have hb := (Below.refl w6.heap.size w6).alloc (Nat.le_refl _) (.cells #[.slice A5 n5 c5, .slice A6 n6 c6] 25)
        rw [h7] at hN hb
        try rw [h7]
        clear h7
        have hs7 := hb.size
        replace hR2 := hR2.keep hb
        replace hb2 := hb2.trans (hb.mono (by omega))
        replace s5 := (s5.below hb).mono hb.size
        replace s6 := (s6.below hb).mono hb.size
        obtain ⟨hn0, hn1'⟩ := hN.cells2
        clear hb
        try go_wp2_with fail
        refine (rfractext_c ⟨A5, n5, c5, l5, A6, n6, c6, l6⟩ w7 ⟨s5, s6, N5.dig, N6.dig⟩).mono ?_
        rintro e w9 ⟨tx, er, rfl, HT, hb⟩
        have hs9 := hb.size
        replace hR2 := hR2.keep hb
        replace hN := hN.keep hb
        replace hb2 := hb2.trans (hb.mono (by omega))
        replace s5 := (s5.below hb).mono hb.size
        replace s6 := (s6.below hb).mono hb.size
        clear hn0 hn1' hb
        obtain ⟨hn0, hn1'⟩ := hN.cells2
        obtain ⟨hc0, hc1⟩ := hR2.cells2
        have hf0 := hR2.frozen 0
        have hf1 := hR2.frozen 1
        rcases HT.read hk5 hk6 N5.val_ N6.val_ f1 f2 with ⟨rfl, hpos, hbt⟩ | ⟨her, hz⟩
        · by_cases hts : tx = s
          · subst hts
            have HB := hide hbt
            clear hbt
            go_wp2
            have hR8 := hR2.two (.slice A5 n5 c5) (.slice A6 n6 c6)
            have hb8 := below_two hb2 (Nat.le_refl _) (.slice A5 n5 c5) (.slice A6 n6 c6)
            have p1 := s5.far2 (g := w.heap.size) (fun b o h => by have := F1 b o h; omega) (.slice A5 n5 c5) (.slice A6 n6 c6)
            have p2 := s6.far2 (g := w.heap.size) (fun b o h => by have := F2 b o h; omega) (.slice A5 n5 c5) (.slice A6 n6 c6)
            have hz8 : w9.heap.size ≤ ((w9.setCell ⟨w.heap.size, 0, none⟩ (.slice A5 n5 c5)).setCell ⟨w.heap.size, 1, none⟩ (.slice A6 n6 c6)).heap.size := by simp
            generalize (w9.setCell ⟨w.heap.size, 0, none⟩ (.slice A5 n5 c5)).setCell ⟨w.heap.size, 1, none⟩ (.slice A6 n6 c6) = w8 at *
            obtain ⟨q0, q1⟩ := hR8.cells2
            refine bodyPost_ret (v := .tuple #[.agg #[.slice A5 n5 c5, .slice A6 n6 c6], .int .i64 0]) (by simp [results, Try.results70, go_sem, q0, q1]) rfl ?_
            exact ⟨_, _, _, _, _, _, _, _, _, rfl, p1.mono hz8, p2.mono hz8, .inl ⟨_, HC.out, .inr ⟨h1, h2, .inr ⟨f1, f2, .inl ⟨⟨hpos, HB.out⟩, N5, N6, rfl⟩⟩⟩⟩, hb8⟩
          · have htl : (tx.toList == s.toList) = false := beq_eq_false_iff_ne.2 fun h => hts (toList_inj h)
            have hnf : ¬ FText (bytesN s) (numD (List.take i (bytesN s))) (numD (List.drop (i + 1) (bytesN s))) := fun h => hts (bytesN_inj (hbt.trans h.2.symm))
            have HNF := hide hnf
            clear hbt hnf
            go_wp2
            have hR8 := hR2.two (.slice none 0 0) (.slice none 0 0)
            have hb8 := below_two hb2 (Nat.le_refl _) (.slice none 0 0) (.slice none 0 0)
            generalize (w9.setCell ⟨w.heap.size, 0, none⟩ (.slice none 0 0)).setCell ⟨w.heap.size, 1, none⟩ (.slice none 0 0) = w8 at *
            obtain ⟨q0, q1⟩ := hR8.cells2
            refine bodyPost_ret (v := .tuple #[.agg #[.slice none 0 0, .slice none 0 0], .int .i64 6]) (by simp [results, Try.results70, go_sem, q0, q1]) rfl ?_
            exact ⟨_, _, _, _, _, _, _, _, _, rfl, Sl.nil _ _ _ _ _ (by omega), Sl.nil _ _ _ _ _ (by omega), .inl ⟨_, HC.out, .inr ⟨h1, h2, .inr ⟨f1, f2, .inr ⟨HNF.out, rfl, rfl, rfl⟩⟩⟩⟩, hb8⟩
        · have her' : (er != 0) = true := by rw [bne_iff_ne]; exact her
          have hnf : ¬ FText (bytesN s) (numD (List.take i (bytesN s))) (numD (List.drop (i + 1) (bytesN s))) := fun h => by have := h.1; omega
          go_wp2
          have hR8 := hR2.two (.slice none 0 0) (.slice none 0 0)
          have hb8 := below_two hb2 (Nat.le_refl _) (.slice none 0 0) (.slice none 0 0)
          generalize (w9.setCell ⟨w.heap.size, 0, none⟩ (.slice none 0 0)).setCell ⟨w.heap.size, 1, none⟩ (.slice none 0 0) = w8 at *
          obtain ⟨q0, q1⟩ := hR8.cells2
          refine bodyPost_ret (v := .tuple #[.agg #[.slice none 0 0, .slice none 0 0], .int .i64 6]) (by simp [results, Try.results70, go_sem, q0, q1]) rfl ?_
          exact ⟨_, _, _, _, _, _, _, _, _, rfl, Sl.nil _ _ _ _ _ (by omega), Sl.nil _ _ _ _ _ (by omega), .inl ⟨_, HC.out, .inr ⟨h1, h2, .inr ⟨f1, f2, .inr ⟨hnf, rfl, rfl, rfl⟩⟩⟩⟩, hb8⟩
      · have HI2 : Hid (∀ j, j < i + 1 → (bytesN s).getD j 0 ≠ 47) := fun j hj => by
          rcases Nat.lt_or_ge j i with h | h
          · exact HI.out j h
          · obtain rfl : j = i := by omega
            rw [HX.out]; exact h47
        go_wp2
        go_roundw
        case rel => exact ⟨i + 1, by omega, by go_num, HI2, _, rfl⟩
        case measure => simp [intOf] <;> omega
    · obtain rfl : i = s.size := by omega
      have HN : Hid (∀ j, ¬ CutAt (bytesN s) j) := fun j hc => HI.out j (by have := hc.1; rwa [bytesN_length] at this) hc.2.1
      have hR2 := hR.drewN q
      have hb2 := below_drewN hb q
      clear hR hb
      generalize w1.drewN q = w4 at *
      obtain ⟨hc0, hc1⟩ := hR2.cells2
      have hf0 := hR2.frozen 0
      have hf1 := hR2.frozen 1
      go_wp2
      have hR8 := hR2.two (.slice none 0 0) (.slice none 0 0)
      have hb8 := below_two hb2 (Nat.le_refl _) (.slice none 0 0) (.slice none 0 0)
      generalize (w4.setCell ⟨w.heap.size, 0, none⟩ (.slice none 0 0)).setCell ⟨w.heap.size, 1, none⟩ (.slice none 0 0) = w8 at *
      obtain ⟨q0, q1⟩ := hR8.cells2
      refine bodyPost_ret (v := .tuple #[.agg #[.slice none 0 0, .slice none 0 0], .int .i64 6]) (by simp [results, Try.results70, go_sem, q0, q1]) rfl ?_
      exact ⟨_, _, _, _, _, _, _, _, _, rfl, Sl.nil _ _ _ _ _ (by omega), Sl.nil _ _ _ _ _ (by omega), .inr ⟨HN.out, rfl, rfl, rfl⟩, hb8⟩
end Go.Proofs.Ytgilhkdmgbeieaa
