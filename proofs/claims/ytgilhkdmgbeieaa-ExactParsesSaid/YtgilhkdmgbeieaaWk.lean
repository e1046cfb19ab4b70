/- The contract of exact's Tail. -/
import Derived.Test.YtgilhkdmgbeieaaWj
namespace Go.Proofs.Ytgilhkdmgbeieaa
open Go.RowKit

/-- What the numerator, the denominator and the error of a reduced fraction are. -/
def SRed (V D : Nat) (l l' : List Nat) (err : Int) : Prop :=
  (Fits (V / Nat.gcd V D) ∧ Fits (D / Nat.gcd V D) ∧ Num 4294967296 l (V / Nat.gcd V D) ∧ Num 4294967296 l' (D / Nat.gcd V D) ∧ err = 0) ∨
  (¬ (Fits (V / Nat.gcd V D) ∧ Fits (D / Nat.gcd V D)) ∧ l = [] ∧ l' = [] ∧ err = 8)
theorem SRed.uniq {V D : Nat} {l l' m m' : List Nat} {e f : Int} (h : SRed V D l l' e) (k : SRed V D m m' f) : l = m ∧ l' = m' ∧ e = f := by
  rcases h with ⟨h1, h2, h3, h4, h5⟩ | ⟨h1, h3, h4, h5⟩ <;> rcases k with ⟨k1, k2, k3, k4, k5⟩ | ⟨k1, k3, k4, k5⟩
  · exact ⟨h3.uniq k3 (by omega), h4.uniq k4 (by omega), by rw [h5, k5]⟩
  · exact absurd ⟨h1, h2⟩ k1
  · exact absurd ⟨k1, k2⟩ h1
  · exact ⟨by rw [h3, k3], by rw [h4, k4], by rw [h5, k5]⟩

/-- A fraction and an error in memory. -/
def FracV (w : World) (S : List Nat → List Nat → Int → Prop) (e : Ending) (w' : World) : Prop :=
  ∃ A n c l A' n' c' l' err, e = .returned (.tuple #[.agg #[.slice A n c, .slice A' n' c'], .int .i64 err]) ∧ Sl w' w'.heap.size .u32 A n c l ∧ Sl w' w'.heap.size .u32 A' n' c' l' ∧ S l l' err ∧ Below w.heap.size w w'
theorem FracR.v {w w' : World} {V D : Nat} {e : Ending} (h : FracR w V D e w') : FracV w (SRed V D) e w' := by
  obtain ⟨hb, ⟨h1, h2, g, n, c, l, g', n', c', l', he, o1, N1, o2, N2⟩ | ⟨h1, he⟩⟩ := h
  · exact ⟨_, _, _, _, _, _, _, _, _, he, o1.sl, o2.sl, .inl ⟨h1, h2, N1, N2, rfl⟩, hb⟩
  · exact ⟨_, _, _, _, _, _, _, _, _, he, Sl.nil _ _ _ _ _ (by omega), Sl.nil _ _ _ _ _ (by omega), .inr ⟨h1, rfl, rfl, rfl⟩, hb⟩

/-- What Tail returns. -/
def STail (t b s k : Int) (l l' : List Nat) (err : Int) : Prop :=
  (saneB t b = true ∧ saneB t s = true ∧ SRed (Wn t.toNat b.toNat s.toNat (k + 1).toNat) (Cn t.toNat s.toNat) l l' err) ∨
  (¬ (saneB t b = true ∧ saneB t s = true) ∧ l = [] ∧ l' = [] ∧ err = 3)
theorem STail.uniq {t b s k : Int} {l l' m m' : List Nat} {e f : Int} (h : STail t b s k l l' e) (g : STail t b s k m m' f) : l = m ∧ l' = m' ∧ e = f := by
  rcases h with ⟨h1, h2, h3⟩ | ⟨h1, h3, h4, h5⟩ <;> rcases g with ⟨k1, k2, k3⟩ | ⟨k1, k3, k4, k5⟩
  · exact h3.uniq k3
  · exact absurd ⟨h1, h2⟩ k1
  · exact absurd ⟨k1, k2⟩ h1
  · exact ⟨by rw [h3, k3], by rw [h4, k4], by rw [h5, k5]⟩

/-- The result's own variable, written. -/
theorem Sl.two {w : World} {B : Nat} {k : IntKind} {A : Option Addr} {n c : Nat} {l : List Nat} (h : Sl w B k A n c l) {g : Nat} (hb : ∀ b o, A = some ⟨b, o, none⟩ → 0 < n → b ≠ g) (a b : Value) :
    Sl ((w.setCell ⟨g, 0, none⟩ a).setCell ⟨g, 1, none⟩ b) B k A n c l :=
  ⟨h.len, h.cap, h.max, fun hn => by
    obtain ⟨b', o, e, hB, hc⟩ := h.at_ hn
    refine ⟨b', o, e, hB, fun j hj => ?_⟩
    have hne := hb b' o e hn
    rw [World.cell?_setCell_other _ _ _ _ (fun e => hne (congrArg Addr.block e).symm), World.cell?_setCell_other _ _ _ _ (fun e => hne (congrArg Addr.block e).symm)]
    exact hc j hj⟩

theorem Num.len_Wn' {l : List Nat} {t b s m n : Nat} (h : Num 4294967296 l (Wn t b s m)) (hb : b ≤ 512) (ht : t ≤ 512) (hl : l.length = n) : n ≤ 40 := by
  rcases Nat.le_total m 513 with hm | hm
  · exact h.len_Wn hb ht hm hl
  · rw [Wn_stop hm (by omega)] at h
    exact h.len_Wn hb ht (Nat.le_refl _) hl

set_option maxRecDepth 100000 in
set_option maxHeartbeats 1600000 in
theorem tail_c (t b s k : Int) (w : World) (h1 : -9223372036854775808 ≤ k) (h2 : k ≤ 9223372036854775807) :
    Calls Try.prog 17 #[.int .i64 t, .int .i64 b, .int .i64 s, .int .i64 k] w (FracV w (STail t b s k)) := by
  obtain ⟨wa, hwa⟩ : ∃ wa, w.alloc (.cells #[.slice none 0 0, .slice none 0 0] 25) = wa := ⟨_, rfl⟩
  have hR := Blk.new w 25 #[.slice none 0 0, .slice none 0 0]
  have hba := (Below.refl w.heap.size w).alloc (Nat.le_refl _) (.cells #[.slice none 0 0, .slice none 0 0] 25)
  rw [hwa] at hR hba
  have HWA := hide hwa
  clear hwa
  have hsa := hR.lt
  by_cases hs : saneB t b = true ∧ saneB t s = true
  · obtain ⟨hs1, hs2⟩ := hs
    have a1 := saneB_true.1 hs1
    have a2 := saneB_true.1 hs2
    obtain ⟨T, rfl⟩ := Int.eq_ofNat_of_zero_le a1.1
    obtain ⟨b', rfl⟩ := Int.eq_ofNat_of_zero_le a1.2.2.1
    obtain ⟨s', rfl⟩ := Int.eq_ofNat_of_zero_le a2.2.2.1
    go_enter Try.func17, Try.ntmps17
    go_wp2_with fail
    rw [HWA.out]
    have c1 := sane_c T b' wa
    rw [hs1] at c1
    refine c1.mono ?_
    rintro e w' ⟨rfl, rfl⟩
    clear c1
    go_wp2_with fail
    have c2 := sane_c T s' wa
    rw [hs2] at c2
    refine c2.mono ?_
    rintro e w' ⟨rfl, rfl⟩
    clear c2
    go_wp2_with fail
    refine (ways_c T b' s' k wa (by omega) (by omega) (by omega) h1 h2).mono ?_
    rintro e w1 ⟨A1, n1, c1, l1, rfl, s1, N1, hb1⟩
    go_wp2_with fail
    have c3 := choose_c T (s' : Int) w1 (by omega) (by omega) (by omega)
    rw [Ci_nat] at c3
    refine c3.mono ?_
    rintro e w2 ⟨A2, n2, c2, l2, rfl, s2, N2, hb2⟩
    clear c3
    have hl1 := N1.len_Wn' (by omega) (by omega) s1.len
    have hl2 := N2.len_Cn (by omega) s2.len
    have hR2 := (hR.keep hb1).keep hb2
    have hbw2 := (hba.trans (hb1.mono (Nat.le_of_lt hsa))).trans (hb2.mono (Nat.le_trans (Nat.le_of_lt hsa) hb1.size))
    have s1' := (s1.below hb2).mono hb2.size
    clear hR hba s1 hb1 hb2
    have c4 := reduced_c _ _ _ _ _ _ _ _ w2 _ s1' s2 (Nat.le_refl _) N1.dig N2.dig (by omega) (by omega) (by rw [N2.val_]; exact Cn_pos (by omega))
    rw [N1.val_, N2.val_] at c4
    go_wp2_with fail
    refine c4.mono ?_
    rintro e w3 ⟨hb3, h3⟩
    clear c4
    have hR3 := hR2.keep hb3
    have hbw3 := hbw2.trans (hb3.mono hbw2.size)
    have hs23 := hR2.lt
    clear hb3 s1' s2
    have hr0 := hR3.cell 0
    have hr1 := hR3.cell 1
    have hf0 := hR3.frozen 0
    have hf1 := hR3.frozen 1
    simp at hr0 hr1
    rcases h3 with ⟨hF1, hF2, g, n, c, l, g', n', c', l', rfl, o1, M1, o2, M2⟩ | ⟨hF, rfl⟩
    · go_wp2
      have hR8 := hR3.two (.slice (some ⟨g, 0, none⟩) n c) (.slice (some ⟨g', 0, none⟩) n' c')
      have hb8 := below_two hbw3 (Nat.le_refl _) (.slice (some ⟨g, 0, none⟩) n c) (.slice (some ⟨g', 0, none⟩) n' c')
      have p1 := o1.two (g := w.heap.size) (fun g h => by have := (o1.lt h).1; omega) (.slice (some ⟨g, 0, none⟩) n c) (.slice (some ⟨g', 0, none⟩) n' c')
      have p2 := o2.two (g := w.heap.size) (fun g h => by have := (o2.lt h).1; omega) (.slice (some ⟨g, 0, none⟩) n c) (.slice (some ⟨g', 0, none⟩) n' c')
      generalize (w3.setCell ⟨w.heap.size, 0, none⟩ (.slice (some ⟨g, 0, none⟩) n c)).setCell ⟨w.heap.size, 1, none⟩ (.slice (some ⟨g', 0, none⟩) n' c') = w8 at *
      have q0 := hR8.cell 0
      have q1 := hR8.cell 1
      simp at q0 q1
      refine bodyPost_ret (v := .tuple #[.agg #[.slice (some ⟨g, 0, none⟩) n c, .slice (some ⟨g', 0, none⟩) n' c'], .int .i64 0]) (by simp [results, Try.results17, go_sem, q0, q1]) rfl ?_
      exact ⟨_, _, _, _, _, _, _, _, _, rfl, p1.sl, p2.sl, .inl ⟨hs1, hs2, .inl ⟨hF1, hF2, M1, M2, rfl⟩⟩, hb8⟩
    · go_wp2
      have hR8 := hR3.two (.slice none 0 0) (.slice none 0 0)
      have hb8 := below_two hbw3 (Nat.le_refl _) (.slice none 0 0) (.slice none 0 0)
      generalize (w3.setCell ⟨w.heap.size, 0, none⟩ (.slice none 0 0)).setCell ⟨w.heap.size, 1, none⟩ (.slice none 0 0) = w8 at *
      have q0 := hR8.cell 0
      have q1 := hR8.cell 1
      simp at q0 q1
      refine bodyPost_ret (v := .tuple #[.agg #[.slice none 0 0, .slice none 0 0], .int .i64 8]) (by simp [results, Try.results17, go_sem, q0, q1]) rfl ?_
      exact ⟨_, _, _, _, _, _, _, _, _, rfl, Sl.nil _ _ _ _ _ (by omega), Sl.nil _ _ _ _ _ (by omega), .inl ⟨hs1, hs2, .inr ⟨hF, rfl, rfl, rfl⟩⟩, hb8⟩
  · have hr0 := hR.cell 0
    have hr1 := hR.cell 1
    have hf0 := hR.frozen 0
    have hf1 := hR.frozen 1
    simp at hr0 hr1
    by_cases hs1 : saneB t b = true
    · have hs2 : saneB t s = false := by simpa [hs1] using hs
      go_enter Try.func17, Try.ntmps17
      go_wp2_with fail
      rw [HWA.out]
      have c1 := sane_c t b wa
      rw [hs1] at c1
      refine c1.mono ?_
      rintro e w' ⟨rfl, rfl⟩
      clear c1
      go_wp2_with fail
      have c2 := sane_c t s wa
      rw [hs2] at c2
      refine c2.mono ?_
      rintro e w' ⟨rfl, rfl⟩
      clear c2
      go_wp2
      have hR8 := hR.two (.slice none 0 0) (.slice none 0 0)
      have hb8 := below_two hba (Nat.le_refl _) (.slice none 0 0) (.slice none 0 0)
      generalize (wa.setCell ⟨w.heap.size, 0, none⟩ (.slice none 0 0)).setCell ⟨w.heap.size, 1, none⟩ (.slice none 0 0) = w8 at *
      have q0 := hR8.cell 0
      have q1 := hR8.cell 1
      simp at q0 q1
      refine bodyPost_ret (v := .tuple #[.agg #[.slice none 0 0, .slice none 0 0], .int .i64 3]) (by simp [results, Try.results17, go_sem, q0, q1]) rfl ?_
      exact ⟨_, _, _, _, _, _, _, _, _, rfl, Sl.nil _ _ _ _ _ (by omega), Sl.nil _ _ _ _ _ (by omega), .inr ⟨hs, rfl, rfl, rfl⟩, hb8⟩
    · have hs1' : saneB t b = false := by simpa using hs1
      go_enter Try.func17, Try.ntmps17
      go_wp2_with fail
      rw [HWA.out]
      have c1 := sane_c t b wa
      rw [hs1'] at c1
      refine c1.mono ?_
      rintro e w' ⟨rfl, rfl⟩
      clear c1
      go_wp2
      have hR8 := hR.two (.slice none 0 0) (.slice none 0 0)
      have hb8 := below_two hba (Nat.le_refl _) (.slice none 0 0) (.slice none 0 0)
      generalize (wa.setCell ⟨w.heap.size, 0, none⟩ (.slice none 0 0)).setCell ⟨w.heap.size, 1, none⟩ (.slice none 0 0) = w8 at *
      have q0 := hR8.cell 0
      have q1 := hR8.cell 1
      simp at q0 q1
      refine bodyPost_ret (v := .tuple #[.agg #[.slice none 0 0, .slice none 0 0], .int .i64 3]) (by simp [results, Try.results17, go_sem, q0, q1]) rfl ?_
      exact ⟨_, _, _, _, _, _, _, _, _, rfl, Sl.nil _ _ _ _ _ (by omega), Sl.nil _ _ _ _ _ (by omega), .inr ⟨hs, rfl, rfl, rfl⟩, hb8⟩
end Go.Proofs.Ytgilhkdmgbeieaa
