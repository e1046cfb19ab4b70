/- The contracts of exact's Parse and FracParse. -/
import Derived.Test.YtgilhkdmgbeieaaUc
import Derived.BigQuiet
namespace Go.Proofs.Ytgilhkdmgbeieaa
open Go.RowKit

theorem okD_len {b l : List Nat} (h : okD b) (N : Num 4294967296 l (numD b)) : l.length ≤ 617 := by
  have h1 := numD_lt b.length b (fun x hx => h.2.2.1 x (List.mem_of_mem_take hx))
  rw [List.take_of_length_le (Nat.le_refl _)] at h1
  exact Nat.le_trans ((N.length_le (by omega) b.length).2 (Nat.lt_of_lt_of_le h1 (Nat.pow_le_pow_left (by omega) _))) h.2.1

theorem Blk.cells2' {w : World} {g : Nat} {t : TypeId} {x y : Value} (h : Blk w g t #[x, y]) : w.cell? ⟨g, 0, none⟩ = some x ∧ w.cell? ⟨g, 1, none⟩ = some y := by
  have h0 := h.cell 0
  have h1 := h.cell 1
  simp at h0 h1
  exact ⟨h0, h1⟩
theorem Sl.far2 {w : World} {B : Nat} {k : IntKind} {A : Option Addr} {n c : Nat} {l : List Nat} (h : Sl w B k A n c l) {g : Nat} (hg : ∀ b o, A = some ⟨b, o, none⟩ → b ≠ g) (a b : Value) :
    Sl ((w.setCell ⟨g, 0, none⟩ a).setCell ⟨g, 1, none⟩ b) B k A n c l := by
  have key : 0 < n → ∀ g', A.map (·.block) = some g' → g' ≠ g := fun hn g' e => by
    obtain ⟨b, off, rfl, _, _⟩ := h.at_ hn
    have h1 := hg b off rfl
    simp at e
    omega
  exact (h.far (p := ⟨g, 0, none⟩) key a).far (p := ⟨g, 1, none⟩) key b
theorem toList_inj {s t : ByteArray} (h : s.toList = t.toList) : s = t := by
  rw [Lib.toList_data, Lib.toList_data] at h
  obtain ⟨⟨l⟩⟩ := s
  obtain ⟨⟨m⟩⟩ := t
  exact congrArg (fun z => ByteArray.mk ⟨z⟩) h

set_option maxRecDepth 100000 in
set_option maxHeartbeats 800000 in
theorem xparse_c (s : ByteArray) (w : World) (hs : s.size ≤ 9223372036854775807) :
    Calls Try.prog 67 #[.string s] w (NumV w (SParse (bytesN s))) := by
  go_enter Try.func67, Try.ntmps67
  go_wp2_with fail
  refine (xread_c s w hs).mono ?_
  rintro e w1 ⟨A, n, c, l, ok, rfl, s1, ⟨h1, rfl, N1⟩ | ⟨h1, rfl, rfl⟩, hb, _⟩
  · have hn : n ≤ 617 := by rw [← s1.len]; exact okD_len h1 N1
    go_wp2_with fail
    have t1 := fit_c A n c l w1 _ s1 (Nat.le_refl _) N1.dig (by omega)
    rw [N1.val_] at t1
    refine t1.mono ?_
    rintro e w2 ⟨hb2, ⟨hf, g, m, c2, l2, rfl, o2, N2⟩ | ⟨hf, rfl⟩⟩
    · go_wp2
      go_ret2
      exact ⟨_, _, _, _, _, rfl, o2.sl, .inl ⟨h1, .inl ⟨hf, N2, rfl⟩⟩, hb.trans (hb2.mono hb.size)⟩
    · go_wp2
      go_ret2
      exact ⟨_, _, _, _, _, rfl, Sl.nil _ _ _ _ _ (by omega), .inl ⟨h1, .inr ⟨hf, rfl, rfl⟩⟩, hb.trans (hb2.mono hb.size)⟩
  · go_wp2
    go_ret2
    exact ⟨_, _, _, _, _, rfl, Sl.nil _ _ _ _ _ (by omega), .inr ⟨h1, rfl, rfl⟩, hb⟩

set_option maxRecDepth 100000 in
set_option maxHeartbeats 3200000 in
theorem xfracparse_c (s : ByteArray) (w : World) (hs : s.size ≤ 9223372036854775806) :
    Calls Try.prog 69 #[.string s] w (FracV w (SFP (bytesN s))) := by
  have hR := Blk.new w 25 #[.slice none 0 0, .slice none 0 0]
  have hb := (Below.refl w.heap.size w).alloc (Nat.le_refl _) (.cells #[.slice none 0 0, .slice none 0 0] 25)
  have hs1 : (w.alloc (.cells #[.slice none 0 0, .slice none 0 0] 25)).heap.size = w.heap.size + 1 := by simp
  go_enter Try.func69, Try.ntmps69
  go_wp2_with fail
  generalize (w.alloc (.cells #[.slice none 0 0, .slice none 0 0] 25)) = w1 at *
  refine (cut_c s w1 (by omega)).mono ?_
  rintro e w2 ⟨q, rfl, ⟨i, hi, his, rfl⟩ | ⟨hi, rfl⟩⟩
  · have HC := hide (cutAt_some hi his)
    have hR2 := hR.drewN q
    have hb2 := below_drewN hb q
    clear hi hR hb
    have hbx := bytesN_left s i
    have hby := bytesN_right s (i + 1)
    obtain ⟨X, hX⟩ : ∃ X, s.extract 0 i = X := ⟨_, rfl⟩
    obtain ⟨Y, hY⟩ : ∃ Y, s.extract (i + 1) s.size = Y := ⟨_, rfl⟩
    rw [hX] at hbx
    rw [hY] at hby
    have hXs : X.size ≤ 9223372036854775807 := by
      have h := congrArg List.length hbx
      rw [bytesN_length, List.length_take, bytesN_length] at h
      omega
    have hYs : Y.size ≤ 9223372036854775807 := by
      have h := congrArg List.length hby
      rw [bytesN_length, List.length_drop, bytesN_length] at h
      omega
    have HBX := hide hbx
    have HBY := hide hby
    rw [hX, hY]
    clear hbx hby hX hY
    have hs2 : (w1.drewN q).heap.size = w.heap.size + 1 := hs1
    generalize w1.drewN q = w2 at *
    go_wp2_with fail
    refine (xread_c X w2 hXs).mono ?_
    rintro e w3 ⟨A1, n1, c1, l1, ok1, rfl, s1, S1, hb, F1⟩
    replace hR2 := hR2.keep hb
    have hs3 := hb.size
    replace hb2 := hb2.trans (hb.mono (by omega))
    clear hb
    rw [HBX.out] at S1
    go_wp2_with fail
    refine (xread_c Y w3 hYs).mono ?_
    rintro e w4 ⟨A2, n2, c2, l2, ok2, rfl, s2, S2, hb, F2⟩
    replace hR2 := hR2.keep hb
    have hs4 := hb.size
    replace hb2 := hb2.trans (hb.mono (by omega))
    replace s1 := (s1.below hb).mono hb.size
    rw [HBY.out] at S2
    clear hb
    have hc0 := hR2.cell 0
    have hc1 := hR2.cell 1
    have hf0 := hR2.frozen 0
    have hf1 := hR2.frozen 1
    simp at hc0 hc1
    rcases S1 with ⟨h1, rfl, N1⟩ | ⟨h1, rfl, rfl⟩
    rotate_left
    · go_wp2
      have hR8 := hR2.two (.slice none 0 0) (.slice none 0 0)
      have hb8 := below_two hb2 (Nat.le_refl _) (.slice none 0 0) (.slice none 0 0)
      generalize (w4.setCell ⟨w.heap.size, 0, none⟩ (.slice none 0 0)).setCell ⟨w.heap.size, 1, none⟩ (.slice none 0 0) = w8 at *
      have q0 := hR8.cell 0
      have q1 := hR8.cell 1
      simp at q0 q1
      refine bodyPost_ret (v := .tuple #[.agg #[.slice none 0 0, .slice none 0 0], .int .i64 6]) (by simp [results, Try.results69, go_sem, q0, q1]) rfl ?_
      exact ⟨_, _, _, _, _, _, _, _, _, rfl, Sl.nil _ _ _ _ _ (by omega), Sl.nil _ _ _ _ _ (by omega), .inl ⟨_, HC.out, .inl ⟨fun h => h1 h.1, rfl, rfl, rfl⟩⟩, hb8⟩
    rcases S2 with ⟨h2, rfl, N2⟩ | ⟨h2, rfl, rfl⟩
    rotate_left
    · go_wp2
      have hR8 := hR2.two (.slice none 0 0) (.slice none 0 0)
      have hb8 := below_two hb2 (Nat.le_refl _) (.slice none 0 0) (.slice none 0 0)
      generalize (w4.setCell ⟨w.heap.size, 0, none⟩ (.slice none 0 0)).setCell ⟨w.heap.size, 1, none⟩ (.slice none 0 0) = w8 at *
      have q0 := hR8.cell 0
      have q1 := hR8.cell 1
      simp at q0 q1
      refine bodyPost_ret (v := .tuple #[.agg #[.slice none 0 0, .slice none 0 0], .int .i64 6]) (by simp [results, Try.results69, go_sem, q0, q1]) rfl ?_
      exact ⟨_, _, _, _, _, _, _, _, _, rfl, Sl.nil _ _ _ _ _ (by omega), Sl.nil _ _ _ _ _ (by omega), .inl ⟨_, HC.out, .inl ⟨fun h => h2 h.2, rfl, rfl, rfl⟩⟩, hb8⟩
    have hn1 : n1 ≤ 617 := by rw [← s1.len]; exact okD_len h1 N1
    have hn2 : n2 ≤ 617 := by rw [← s2.len]; exact okD_len h2 N2
    have e1 := s1.len
    have e2 := s2.len
    by_cases hk : n1 ≤ 64 ∧ n2 ≤ 64
    · obtain ⟨hk1, hk2⟩ := hk
      have f1 : Fits (numD (List.take i (bytesN s))) := N1.fits.1 (by omega)
      have f2 : Fits (numD (List.drop (i + 1) (bytesN s))) := N2.fits.1 (by omega)
      have t1 := trim_c A1 n1 c1 l1 w4 _ s1
      have t2 := trim_c A2 n2 c2 l2 w4 _ s2
      rw [show trimN l1 n1 = n1 by rw [← e1]; exact trimN_self N1.top] at t1
      rw [show trimN l2 n2 = n2 by rw [← e2]; exact trimN_self N2.top] at t2
      have hi1 : ¬ (64 : Int) < (n1 : Int) := by omega
      have hi2 : ¬ (64 : Int) < (n2 : Int) := by omega
      go_wp2_with fail
      refine t1.mono ?_
      rintro e w' ⟨rfl, rfl⟩
      go_wp2_with fail
      refine t2.mono ?_
      rintro e w' ⟨rfl, rfl⟩
      go_wp2_with fail
      obtain ⟨w5, h5⟩ : ∃ w5, w4.alloc (.cells #[.slice A1 n1 c1, .slice A2 n2 c2] 25) = w5 := ⟨_, rfl⟩
      have hN := Blk.new w4 25 #[.slice A1 n1 c1, .slice A2 n2 c2]
      have hbn := (Below.refl w4.heap.size w4).alloc (Nat.le_refl _) (.cells #[.slice A1 n1 c1, .slice A2 n2 c2] 25)
      rw [h5] at hN hbn
      have hs5 := hbn.size
      have hNl := hN.lt
      replace hR2 := hR2.keep hbn
      replace hb2 := hb2.trans (hbn.mono (by omega))
      replace s1 := (s1.below hbn).mono hbn.size
      replace s2 := (s2.below hbn).mono hbn.size
      clear hbn hc0 hc1 hf0 hf1 t1 t2
      obtain ⟨hn0, hn1'⟩ := hN.cells2'
      try rw [h5]
      clear h5
      go_wp2_with fail
      refine (fracText_c ⟨A1, n1, c1, l1, A2, n2, c2, l2⟩ w5 _ ⟨s1, s2, N1.dig, N2.dig⟩ (Nat.le_refl _)).mono ?_
      rintro e w6 ⟨tx, er, rfl, HT, hb⟩
      replace hR2 := hR2.keep hb
      replace hN := hN.keep hb
      replace hb2 := hb2.trans (hb.mono (by omega))
      replace s1 := (s1.below hb).mono hb.size
      replace s2 := (s2.below hb).mono hb.size
      clear hn0 hn1' hb
      obtain ⟨hn0, hn1'⟩ := hN.cells2'
      have hc0 := hR2.cell 0
      have hc1 := hR2.cell 1
      have hf0 := hR2.frozen 0
      have hf1 := hR2.frozen 1
      simp at hc0 hc1
      rcases HT.read hk1 hk2 N1.val_ N2.val_ f1 f2 with ⟨rfl, hpos, hbt⟩ | ⟨her, hz⟩
      · by_cases hts : tx = s
        · subst hts
          have HB := hide hbt
          clear hbt
          go_wp2
          have hR8 := hR2.two (.slice A1 n1 c1) (.slice A2 n2 c2)
          have hb8 := below_two hb2 (Nat.le_refl _) (.slice A1 n1 c1) (.slice A2 n2 c2)
          have p1 := s1.far2 (g := w.heap.size) (fun b o h => by have := F1 b o h; omega) (.slice A1 n1 c1) (.slice A2 n2 c2)
          have p2 := s2.far2 (g := w.heap.size) (fun b o h => by have := F2 b o h; omega) (.slice A1 n1 c1) (.slice A2 n2 c2)
          have hz8 : w6.heap.size ≤ ((w6.setCell ⟨w.heap.size, 0, none⟩ (.slice A1 n1 c1)).setCell ⟨w.heap.size, 1, none⟩ (.slice A2 n2 c2)).heap.size := by simp
          generalize (w6.setCell ⟨w.heap.size, 0, none⟩ (.slice A1 n1 c1)).setCell ⟨w.heap.size, 1, none⟩ (.slice A2 n2 c2) = w8 at *
          have q0 := hR8.cell 0
          have q1 := hR8.cell 1
          simp at q0 q1
          refine bodyPost_ret (v := .tuple #[.agg #[.slice A1 n1 c1, .slice A2 n2 c2], .int .i64 0]) (by simp [results, Try.results69, go_sem, q0, q1]) rfl ?_
          exact ⟨_, _, _, _, _, _, _, _, _, rfl, p1.mono hz8, p2.mono hz8, .inl ⟨_, HC.out, .inr ⟨h1, h2, .inr ⟨f1, f2, .inl ⟨⟨hpos, HB.out⟩, N1, N2, rfl⟩⟩⟩⟩, hb8⟩
        · have htl : (tx.toList == s.toList) = false := beq_eq_false_iff_ne.2 fun h => hts (toList_inj h)
          have hnf : ¬ FText (bytesN s) (numD (List.take i (bytesN s))) (numD (List.drop (i + 1) (bytesN s))) := fun h => hts (bytesN_inj (hbt.trans h.2.symm))
          go_wp2
          have hR8 := hR2.two (.slice none 0 0) (.slice none 0 0)
          have hb8 := below_two hb2 (Nat.le_refl _) (.slice none 0 0) (.slice none 0 0)
          generalize (w6.setCell ⟨w.heap.size, 0, none⟩ (.slice none 0 0)).setCell ⟨w.heap.size, 1, none⟩ (.slice none 0 0) = w8 at *
          have q0 := hR8.cell 0
          have q1 := hR8.cell 1
          simp at q0 q1
          refine bodyPost_ret (v := .tuple #[.agg #[.slice none 0 0, .slice none 0 0], .int .i64 6]) (by simp [results, Try.results69, go_sem, q0, q1]) rfl ?_
          exact ⟨_, _, _, _, _, _, _, _, _, rfl, Sl.nil _ _ _ _ _ (by omega), Sl.nil _ _ _ _ _ (by omega), .inl ⟨_, HC.out, .inr ⟨h1, h2, .inr ⟨f1, f2, .inr ⟨hnf, rfl, rfl, rfl⟩⟩⟩⟩, hb8⟩
      · have her' : (er != 0) = true := by rw [bne_iff_ne]; exact her
        have hnf : ¬ FText (bytesN s) (numD (List.take i (bytesN s))) (numD (List.drop (i + 1) (bytesN s))) := fun h => by have := h.1; omega
        go_wp2
        have hR8 := hR2.two (.slice none 0 0) (.slice none 0 0)
        have hb8 := below_two hb2 (Nat.le_refl _) (.slice none 0 0) (.slice none 0 0)
        generalize (w6.setCell ⟨w.heap.size, 0, none⟩ (.slice none 0 0)).setCell ⟨w.heap.size, 1, none⟩ (.slice none 0 0) = w8 at *
        have q0 := hR8.cell 0
        have q1 := hR8.cell 1
        simp at q0 q1
        refine bodyPost_ret (v := .tuple #[.agg #[.slice none 0 0, .slice none 0 0], .int .i64 6]) (by simp [results, Try.results69, go_sem, q0, q1]) rfl ?_
        exact ⟨_, _, _, _, _, _, _, _, _, rfl, Sl.nil _ _ _ _ _ (by omega), Sl.nil _ _ _ _ _ (by omega), .inl ⟨_, HC.out, .inr ⟨h1, h2, .inr ⟨f1, f2, .inr ⟨hnf, rfl, rfl, rfl⟩⟩⟩⟩, hb8⟩
    · have hnf : ¬ (Fits (numD (List.take i (bytesN s))) ∧ Fits (numD (List.drop (i + 1) (bytesN s)))) := fun h => by
        have g1 := N1.fits.2 h.1
        have g2 := N2.fits.2 h.2
        omega
      by_cases hk1 : n1 ≤ 64
      · have hi1 : ¬ (64 : Int) < (n1 : Int) := by omega
        have hi2 : (64 : Int) < (n2 : Int) := by omega
        go_wp2
        have hR8 := hR2.two (.slice none 0 0) (.slice none 0 0)
        have hb8 := below_two hb2 (Nat.le_refl _) (.slice none 0 0) (.slice none 0 0)
        generalize (w4.setCell ⟨w.heap.size, 0, none⟩ (.slice none 0 0)).setCell ⟨w.heap.size, 1, none⟩ (.slice none 0 0) = w8 at *
        have q0 := hR8.cell 0
        have q1 := hR8.cell 1
        simp at q0 q1
        refine bodyPost_ret (v := .tuple #[.agg #[.slice none 0 0, .slice none 0 0], .int .i64 8]) (by simp [results, Try.results69, go_sem, q0, q1]) rfl ?_
        exact ⟨_, _, _, _, _, _, _, _, _, rfl, Sl.nil _ _ _ _ _ (by omega), Sl.nil _ _ _ _ _ (by omega), .inl ⟨_, HC.out, .inr ⟨h1, h2, .inl ⟨hnf, rfl, rfl, rfl⟩⟩⟩, hb8⟩
      · have hi1 : (64 : Int) < (n1 : Int) := by omega
        go_wp2
        have hR8 := hR2.two (.slice none 0 0) (.slice none 0 0)
        have hb8 := below_two hb2 (Nat.le_refl _) (.slice none 0 0) (.slice none 0 0)
        generalize (w4.setCell ⟨w.heap.size, 0, none⟩ (.slice none 0 0)).setCell ⟨w.heap.size, 1, none⟩ (.slice none 0 0) = w8 at *
        have q0 := hR8.cell 0
        have q1 := hR8.cell 1
        simp at q0 q1
        refine bodyPost_ret (v := .tuple #[.agg #[.slice none 0 0, .slice none 0 0], .int .i64 8]) (by simp [results, Try.results69, go_sem, q0, q1]) rfl ?_
        exact ⟨_, _, _, _, _, _, _, _, _, rfl, Sl.nil _ _ _ _ _ (by omega), Sl.nil _ _ _ _ _ (by omega), .inl ⟨_, HC.out, .inr ⟨h1, h2, .inl ⟨hnf, rfl, rfl, rfl⟩⟩⟩, hb8⟩
  · have HC := hide (cutAt_none hi)
    have hR2 := hR.drewN q
    have hb2 := below_drewN hb q
    have hs2 : (w1.drewN q).heap.size = w.heap.size + 1 := hs1
    clear hi hR hb
    generalize w1.drewN q = w2 at *
    go_wp2_with fail
    refine (xread_c s w2 (by omega)).mono ?_
    rintro e w3 ⟨A1, n1, c1, l1, ok1, rfl, _, _, hb, _⟩
    replace hR2 := hR2.keep hb
    have hs3 := hb.size
    replace hb2 := hb2.trans (hb.mono (by omega))
    clear hb
    go_wp2_with fail
    refine (xread_c _ w3 (Nat.zero_le _)).mono ?_
    rintro e w4 ⟨A2, n2, c2, l2, ok2, rfl, _, _, hb, _⟩
    replace hR2 := hR2.keep hb
    have hs4 := hb.size
    replace hb2 := hb2.trans (hb.mono (by omega))
    clear hb
    have hc0 := hR2.cell 0
    have hc1 := hR2.cell 1
    have hf0 := hR2.frozen 0
    have hf1 := hR2.frozen 1
    simp at hc0 hc1
    go_wp2
    have hR8 := hR2.two (.slice none 0 0) (.slice none 0 0)
    have hb8 := below_two hb2 (Nat.le_refl _) (.slice none 0 0) (.slice none 0 0)
    generalize (w4.setCell ⟨w.heap.size, 0, none⟩ (.slice none 0 0)).setCell ⟨w.heap.size, 1, none⟩ (.slice none 0 0) = w8 at *
    have q0 := hR8.cell 0
    have q1 := hR8.cell 1
    simp at q0 q1
    refine bodyPost_ret (v := .tuple #[.agg #[.slice none 0 0, .slice none 0 0], .int .i64 6]) (by simp [results, Try.results69, go_sem, q0, q1]) rfl ?_
    exact ⟨_, _, _, _, _, _, _, _, _, rfl, Sl.nil _ _ _ _ _ (by omega), Sl.nil _ _ _ _ _ (by omega), .inr ⟨HC.out, rfl, rfl, rfl⟩, hb8⟩
end Go.Proofs.Ytgilhkdmgbeieaa
