/- The contract of exact's Tail where its numbers are in range: its fraction lies in new memory. -/
import Derived.Test.YtgilhkdmgbeieaaPc
namespace Go.Proofs.Ytgilhkdmgbeieaa
open Go.RowKit

/-- A fraction in new memory: its value, reduced. -/
def TailF (w : World) (W D : Nat) (e : Ending) (w' : World) : Prop :=
  ∃ f : FA, e = .returned (.tuple #[.agg #[.slice f.A f.n f.c, .slice f.A' f.n' f.c'], .int .i64 0]) ∧ f.Rd w' w'.heap.size ∧ Num 4294967296 f.l (W / Nat.gcd W D) ∧ Num 4294967296 f.l' (D / Nat.gcd W D) ∧ f.n ≤ 64 ∧ f.n' ≤ 64 ∧ Below w.heap.size w w' ∧
    (∀ g o, f.A = some ⟨g, o, none⟩ → w.heap.size ≤ g) ∧ (∀ g o, f.A' = some ⟨g, o, none⟩ → w.heap.size ≤ g)

set_option maxRecDepth 100000 in
set_option maxHeartbeats 1600000 in
theorem tail_f (T b' s' : Nat) (k : Int) (w : World) (hT : T ≤ 512) (hb : b' ≤ T) (hs' : s' ≤ T) (h1 : -9223372036854775808 ≤ k) (h2 : k ≤ 9223372036854775807) :
    Calls Try.prog 17 #[.int .i64 T, .int .i64 b', .int .i64 s', .int .i64 k] w (TailF w (Wn T b' s' (k + 1).toNat) (Cn T s')) := by
  obtain ⟨wa, hwa⟩ : ∃ wa, w.alloc (.cells #[.slice none 0 0, .slice none 0 0] 25) = wa := ⟨_, rfl⟩
  have hR := Blk.new w 25 #[.slice none 0 0, .slice none 0 0]
  have hba := (Below.refl w.heap.size w).alloc (Nat.le_refl _) (.cells #[.slice none 0 0, .slice none 0 0] 25)
  rw [hwa] at hR hba
  have HWA := hide hwa
  clear hwa
  have hsa := hR.lt
  have hs1 : saneB T b' = true := saneB_true.2 (by omega)
  have hs2 : saneB T s' = true := saneB_true.2 (by omega)
  have hfd : Fits (Cn T s') := Cn_fits hT
  have hfw : Fits (Wn T b' s' (k + 1).toNat) := hfd.le (Wn_le_Cn hb)
  go_enter Try.func17, Try.ntmps17
  go_wp2_with fail
  rw [HWA.out]
  have c1 := sane_c T b' wa
  rw [hs1] at c1
  refine c1.mono ?_
  rintro e w' ⟨rfl, rfl⟩
  clear c1
  go_wp2_with fail
  have c2 := sane_c T s' wa
  rw [hs2] at c2
  refine c2.mono ?_
  rintro e w' ⟨rfl, rfl⟩
  clear c2
  go_wp2_with fail
  refine (ways_c T b' s' k wa (by omega) (by omega) (by omega) h1 h2).mono ?_
  rintro e w1 ⟨A1, n1, c1, l1, rfl, s1, N1, hb1⟩
  go_wp2_with fail
  have c3 := choose_c T (s' : Int) w1 (by omega) (by omega) (by omega)
  rw [Ci_nat] at c3
  refine c3.mono ?_
  rintro e w2 ⟨A2, n2, c2, l2, rfl, s2, N2, hb2⟩
  clear c3
  have hl1 := N1.len_Wn' (by omega) (by omega) s1.len
  have hl2 := N2.len_Cn (by omega) s2.len
  have hR2 := (hR.keep hb1).keep hb2
  have hbw2 := (hba.trans (hb1.mono (Nat.le_of_lt hsa))).trans (hb2.mono (Nat.le_trans (Nat.le_of_lt hsa) hb1.size))
  have s1' := (s1.below hb2).mono hb2.size
  clear hR hba s1 hb1 hb2
  have c4 := reduced_c _ _ _ _ _ _ _ _ w2 _ s1' s2 (Nat.le_refl _) N1.dig N2.dig (by omega) (by omega) (by rw [N2.val_]; exact Cn_pos (by omega))
  rw [N1.val_, N2.val_] at c4
  go_wp2_with fail
  refine c4.mono ?_
  rintro e w3 ⟨hb3, h3⟩
  clear c4
  have hR3 := hR2.keep hb3
  have hbw3 := hbw2.trans (hb3.mono hbw2.size)
  have hs23 := hR2.lt
  clear hb3 s1' s2
  have hr0 := hR3.cell 0
  have hr1 := hR3.cell 1
  have hf0 := hR3.frozen 0
  have hf1 := hR3.frozen 1
  simp at hr0 hr1
  rcases h3 with ⟨hF1, hF2, g, n, c, l, g', n', c', l', rfl, o1, M1, o2, M2⟩ | ⟨hF, rfl⟩
  · go_wp2
    have hR8 := hR3.two (.slice (some ⟨g, 0, none⟩) n c) (.slice (some ⟨g', 0, none⟩) n' c')
    have hb8 := below_two hbw3 (Nat.le_refl _) (.slice (some ⟨g, 0, none⟩) n c) (.slice (some ⟨g', 0, none⟩) n' c')
    have p1 := o1.two (g := w.heap.size) (fun g h => by have := (o1.lt h).1; omega) (.slice (some ⟨g, 0, none⟩) n c) (.slice (some ⟨g', 0, none⟩) n' c')
    have p2 := o2.two (g := w.heap.size) (fun g h => by have := (o2.lt h).1; omega) (.slice (some ⟨g, 0, none⟩) n c) (.slice (some ⟨g', 0, none⟩) n' c')
    generalize (w3.setCell ⟨w.heap.size, 0, none⟩ (.slice (some ⟨g, 0, none⟩) n c)).setCell ⟨w.heap.size, 1, none⟩ (.slice (some ⟨g', 0, none⟩) n' c') = w8 at *
    have q0 := hR8.cell 0
    have q1 := hR8.cell 1
    simp at q0 q1
    refine bodyPost_ret (v := .tuple #[.agg #[.slice (some ⟨g, 0, none⟩) n c, .slice (some ⟨g', 0, none⟩) n' c'], .int .i64 0]) (by simp [results, Try.results17, go_sem, q0, q1]) rfl ?_
    exact ⟨⟨_, n, c, l, _, n', c', l'⟩, rfl, ⟨p1.sl, p2.sl, M1.dig, M2.dig⟩, M1, M2, by rw [← p1.len]; exact M1.fits.2 hF1, by rw [← p2.len]; exact M2.fits.2 hF2, hb8, fun h o e => by cases e; have := (o1.lt rfl).1; omega, fun h o e => by cases e; have := (o2.lt rfl).1; omega⟩
  · exact absurd ⟨hfw.le (Nat.div_le_self _ _), hfd.le (Nat.div_le_self _ _)⟩ hF
end Go.Proofs.Ytgilhkdmgbeieaa
