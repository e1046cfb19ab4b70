/- Contracts of the reference's Tail, Same, SameFrac and of the law's frac. -/
import Derived.Test.YtgilhkdmgbeieaaRg
namespace Go.Proofs.Ytgilhkdmgbeieaa
open Go.RowKit

theorem not_sane {t b s : Int} (h : ¬ (saneB t b = true ∧ saneB t s = true)) :
    t < 0 ∨ (0 ≤ t ∧ 512 < t) ∨ (0 ≤ t ∧ t ≤ 512 ∧ b < 0) ∨ (0 ≤ t ∧ t ≤ 512 ∧ 0 ≤ b ∧ t < b) ∨ (0 ≤ t ∧ t ≤ 512 ∧ 0 ≤ b ∧ b ≤ t ∧ s < 0) ∨ (0 ≤ t ∧ t ≤ 512 ∧ 0 ≤ b ∧ b ≤ t ∧ 0 ≤ s ∧ t < s) := by
  rw [saneB_true, saneB_true] at h
  omega

set_option maxRecDepth 100000 in
set_option maxHeartbeats 3200000 in
theorem rtail_c (t b s k : Int) (w : World) (h1 : -9223372036854775808 ≤ k) (h2 : k ≤ 9223372036854775807) :
    Calls Try.prog 18 #[.int .i64 t, .int .i64 b, .int .i64 s, .int .i64 k] w (FracV w (STail t b s k)) := by
  obtain ⟨wa, hwa⟩ : ∃ wa, w.alloc (.cells #[.slice none 0 0, .slice none 0 0] 25) = wa := ⟨_, rfl⟩
  have hR := Blk.new w 25 #[.slice none 0 0, .slice none 0 0]
  have hba := (Below.refl w.heap.size w).alloc (Nat.le_refl _) (.cells #[.slice none 0 0, .slice none 0 0] 25)
  rw [hwa] at hR hba
  have HWA := hide hwa
  clear hwa
  have hsa := hR.lt
  by_cases hs : saneB t b = true ∧ saneB t s = true
  · obtain ⟨hs1, hs2⟩ := hs
    have a1 := saneB_true.1 hs1
    have a2 := saneB_true.1 hs2
    obtain ⟨T, rfl⟩ := Int.eq_ofNat_of_zero_le a1.1
    obtain ⟨b', rfl⟩ := Int.eq_ofNat_of_zero_le a1.2.2.1
    obtain ⟨s', rfl⟩ := Int.eq_ofNat_of_zero_le a2.2.2.1
    go_enter Try.func18, Try.ntmps18
    go_wp2_with fail
    rw [HWA.out]
    refine (rways_c T b' s' k wa (by omega) (by omega) (by omega) h1 h2).mono ?_
    rintro e w1 ⟨A1, n1, c1, l1, rfl, s1, N1, hb1⟩
    have hbw1 := hba.trans (hb1.mono (Nat.le_of_lt hsa))
    have hR1 := hR.keep hb1
    have hl1 : n1 ≤ 130 := by
      rcases Nat.le_total (k + 1).toNat 513 with hm | hm
      · exact N1.len8_Wn (by omega) (by omega) hm s1.len
      · have N1' := N1
        rw [Wn_stop hm (by omega)] at N1'
        exact N1'.len8_Wn (by omega) (by omega) (Nat.le_refl _) s1.len
    clear hR hba hb1
    go_wp2_with fail
    refine (rrow_c T w1 (by omega)).mono ?_
    rintro e w2 ⟨A2, c2, vs2, rfl, o2, N2, hb2⟩
    have hR2 := hR1.keep hb2
    have hbw2 := hbw1.trans (hb2.mono hbw1.size)
    have s1' := (s1.below hb2).mono hb2.size
    obtain ⟨Ad, nd, cd, ld, hv, sd, Nd⟩ := N2.at_ (j := s') (by rw [o2.len]; omega)
    obtain ⟨g, rfl, hg, hcell⟩ := o2.cell hv
    have hld := Nd.len8_Cn (by omega) sd.len
    have hr2 : w.heap.size < w2.heap.size := hR2.lt
    clear hR1 hb2 s1 N2 o2 hbw1
    have c4 := rreduced_c _ _ _ _ _ _ _ _ _ _ w2 _ s1' sd (Nat.le_refl _) N1 Nd (Cn_pos (by omega)) (by omega) (by omega)
    go_wp2_with fail
    refine c4.mono ?_
    rintro e w3 ⟨A, n, c, l, A', n', c', l', err, rfl, p1, p2, hS, hb3, hf1, hf2⟩
    clear c4
    have hR3 := hR2.keep hb3
    have hbw3 := hbw2.trans (hb3.mono hbw2.size)
    clear hR2 hb3 hbw2 s1' sd hcell
    have hr0 := hR3.cell 0
    have hr1 := hR3.cell 1
    have hf0 := hR3.frozen 0
    have hf1' := hR3.frozen 1
    simp at hr0 hr1
    go_wp2
    have hR8 := hR3.two (.slice A n c) (.slice A' n' c')
    have hb8 := below_two hbw3 (Nat.le_refl _) (.slice A n c) (.slice A' n' c')
    have q1' := p1.two (g := w.heap.size) (fun b o e _ => by have := hf1 b o e; omega) (.slice A n c) (.slice A' n' c')
    have q2' := p2.two (g := w.heap.size) (fun b o e _ => by have := hf2 b o e; omega) (.slice A n c) (.slice A' n' c')
    have hz8 : w3.heap.size = ((w3.setCell ⟨w.heap.size, 0, none⟩ (.slice A n c)).setCell ⟨w.heap.size, 1, none⟩ (.slice A' n' c')).heap.size := by simp [World.setCell]
    rw [hz8] at q1' q2'
    generalize (w3.setCell ⟨w.heap.size, 0, none⟩ (.slice A n c)).setCell ⟨w.heap.size, 1, none⟩ (.slice A' n' c') = w8 at *
    have q0 := hR8.cell 0
    have q1 := hR8.cell 1
    simp at q0 q1
    refine bodyPost_ret (v := .tuple #[.agg #[.slice A n c, .slice A' n' c'], .int .i64 err]) (by simp [results, Try.results18, go_sem, q0, q1]) rfl ?_
    exact ⟨_, _, _, _, _, _, _, _, _, rfl, q1', q2', .inl ⟨hs1, hs2, hS⟩, hb8⟩
  · have hr0 := hR.cell 0
    have hr1 := hR.cell 1
    have hf0 := hR.frozen 0
    have hf1 := hR.frozen 1
    simp at hr0 hr1
    rcases not_sane hs with h | h | h | h | h | h
    all_goals
      go_enter Try.func18, Try.ntmps18
      go_wp2_with fail
      rw [HWA.out]
      go_wp2
      refine bodyPost_ret (v := .tuple #[.agg #[.slice none 0 0, .slice none 0 0], .int .i64 3]) (by simp [results, Try.results18, go_sem, hr0, hr1]) rfl ?_
      exact ⟨_, _, _, _, _, _, _, _, _, rfl, Sl.nil _ _ _ _ _ (by omega), Sl.nil _ _ _ _ _ (by omega), .inr ⟨hs, rfl, rfl, rfl⟩, hba⟩

set_option maxHeartbeats 1600000 in
theorem rsame_c (A : Option Addr) (n c : Nat) (l : List Nat) (A' : Option Addr) (n' c' : Nat) (l' : List Nat) (w : World) (B : Nat) (sa : Sl w B .u32 A n c l) (sb : Sl w B .u32 A' n' c' l') :
    Calls Try.prog 27 #[.slice A n c, .slice A' n' c'] w fun e w' => e = .returned (.bool (decide (l = l'))) ∧ ∃ q, w' = w.drewN q := by
  have hna := sa.max
  have hnb := sb.max
  have hca := sa.cap
  have hcb := sb.cap
  by_cases hn : n = n'
  · subst hn
    go_enter Try.func27, Try.ntmps27
    go_wp2
    go_loopw [5] (fun v wr => ∃ k : Nat, k ≤ n ∧ v = .int .i64 (k : Int) ∧ l.take k = l'.take k ∧ ∃ q, wr = w.drewN q) (fun v _ => n - (intOf v).toNat)
    case atStart => exact ⟨0, Nat.zero_le _, rfl, by simp, 0, rfl⟩
    case round =>
      obtain ⟨k, hk, rfl, hd, q, rfl⟩ := hrel
      by_cases h0 : k < n
      · obtain ⟨b1, o1, x, rfl, hb1, hx, hxm, hcx⟩ := sa.cell h0
        obtain ⟨b2, o2, y, rfl, hb2, hy, hym, hcy⟩ := sb.cell h0
        have HD := hide hd
        have hx1 := hide hx
        have hy1 := hide hy
        clear hd hx hy
        by_cases hxy : x = y
        · subst hxy
          go_wp2_with fail
          go_quiet (fail)
          go_wp2
          go_roundw
          case rel => exact ⟨k + 1, by omega, by go_num, by rw [take_succ_getD _ _ (by rw [sa.len]; exact h0), take_succ_getD _ _ (by rw [sb.len]; exact h0), HD.out, hx1.out, hy1.out], _, rfl⟩
          case measure => simp [intOf] <;> omega
        · have hxy' : (x : Int) ≠ (y : Int) := by omega
          go_wp2_with fail
          go_quiet (fail)
          go_wp2
          go_ret
          refine ⟨?_, _, by rw [World.drewN_drewN]⟩
          have : ¬ l = l' := fun h => hxy (by rw [← hx1.out, ← hy1.out, h])
          simp [this]
      · obtain rfl : k = n := by omega
        have HD := hide hd
        clear hd
        go_wp2
        go_ret
        refine ⟨?_, _, rfl⟩
        have := HD.out
        rw [List.take_of_length_le (Nat.le_of_eq sa.len), List.take_of_length_le (Nat.le_of_eq sb.len)] at this
        simp [this]
  · have hne : ¬ l = l' := fun h => hn (by rw [← sa.len, ← sb.len, h])
    have hn' : (n : Int) ≠ (n' : Int) := by omega
    go_enter Try.func27, Try.ntmps27
    go_wp2
    go_ret
    exact ⟨by simp [hne], 0, rfl⟩
end Go.Proofs.Ytgilhkdmgbeieaa
