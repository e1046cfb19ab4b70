/- The contract of exact's Tail. Contracts of the reference's nat, reduced. Contracts of the reference's row, ways. Contracts of the reference's Tail, Same, SameFrac and of the law's frac. Contracts of the reference's SameFrac and of the law's frac. Contracts of Binomial and Ball, exact's and the reference's, and of the law's num. The decimal digits of a number: plain lemmas. Contracts of exact's short and write. -/
import Derived.Test.YtchhkokpjdkkiaaTopDisclosesa11
import Derived.Test.YtchhkokpjdkkiaaTopDisclosesa10
import Derived.Test.YtchhkokpjdkkiaaTopDisclosesa09
import Derived.Laws.BytesArg
namespace Go.Proofs.Ytchhkokpjdkkiaa.Ex
open Go.RowKit

/-- What the numerator, the denominator and the error of a reduced fraction are. -/
def SRed (V D : Nat) (l l' : List Nat) (err : Int) : Prop :=
  (Fits (V / Nat.gcd V D) ∧ Fits (D / Nat.gcd V D) ∧ Num 4294967296 l (V / Nat.gcd V D) ∧ Num 4294967296 l' (D / Nat.gcd V D) ∧ err = 0) ∨
  (¬ (Fits (V / Nat.gcd V D) ∧ Fits (D / Nat.gcd V D)) ∧ l = [] ∧ l' = [] ∧ err = 8)
theorem SRed.uniq {V D : Nat} {l l' m m' : List Nat} {e f : Int} (h : SRed V D l l' e) (k : SRed V D m m' f) : l = m ∧ l' = m' ∧ e = f := by
  rcases h with ⟨h1, h2, h3, h4, h5⟩ | ⟨h1, h3, h4, h5⟩ <;> rcases k with ⟨k1, k2, k3, k4, k5⟩ | ⟨k1, k3, k4, k5⟩
  · exact ⟨h3.uniq k3 (by omega), h4.uniq k4 (by omega), by rw [h5, k5]⟩
  · exact absurd ⟨h1, h2⟩ k1
  · exact absurd ⟨k1, k2⟩ h1
  · exact ⟨by rw [h3, k3], by rw [h4, k4], by rw [h5, k5]⟩

/-- A fraction and an error in memory. -/
def FracV (w : World) (S : List Nat → List Nat → Int → Prop) (e : Ending) (w' : World) : Prop :=
  ∃ A n c l A' n' c' l' err, e = .returned (.tuple #[.agg #[.slice A n c, .slice A' n' c'], .int .i64 err]) ∧ Sl w' w'.heap.size .u32 A n c l ∧ Sl w' w'.heap.size .u32 A' n' c' l' ∧ S l l' err ∧ Below w.heap.size w w'
theorem FracR.v {w w' : World} {V D : Nat} {e : Ending} (h : FracR w V D e w') : FracV w (SRed V D) e w' := by
  obtain ⟨hb, ⟨h1, h2, g, n, c, l, g', n', c', l', he, o1, N1, o2, N2⟩ | ⟨h1, he⟩⟩ := h
  · exact ⟨_, _, _, _, _, _, _, _, _, he, o1.sl, o2.sl, .inl ⟨h1, h2, N1, N2, rfl⟩, hb⟩
  · exact ⟨_, _, _, _, _, _, _, _, _, he, Sl.nil _ _ _ _ _ (by omega), Sl.nil _ _ _ _ _ (by omega), .inr ⟨h1, rfl, rfl, rfl⟩, hb⟩

/-- What Tail returns. -/
def STail (t b s k : Int) (l l' : List Nat) (err : Int) : Prop :=
  (saneB t b = true ∧ saneB t s = true ∧ SRed (Wn t.toNat b.toNat s.toNat (k + 1).toNat) (Cn t.toNat s.toNat) l l' err) ∨
  (¬ (saneB t b = true ∧ saneB t s = true) ∧ l = [] ∧ l' = [] ∧ err = 3)
theorem STail.uniq {t b s k : Int} {l l' m m' : List Nat} {e f : Int} (h : STail t b s k l l' e) (g : STail t b s k m m' f) : l = m ∧ l' = m' ∧ e = f := by
  rcases h with ⟨h1, h2, h3⟩ | ⟨h1, h3, h4, h5⟩ <;> rcases g with ⟨k1, k2, k3⟩ | ⟨k1, k3, k4, k5⟩
  · exact h3.uniq k3
  · exact absurd ⟨h1, h2⟩ k1
  · exact absurd ⟨k1, k2⟩ h1
  · exact ⟨by rw [h3, k3], by rw [h4, k4], by rw [h5, k5]⟩

/-- The result's own variable, written. -/
theorem Sl.two {w : World} {B : Nat} {k : IntKind} {A : Option Addr} {n c : Nat} {l : List Nat} (h : Sl w B k A n c l) {g : Nat} (hb : ∀ b o, A = some ⟨b, o, none⟩ → 0 < n → b ≠ g) (a b : Value) :
    Sl ((w.setCell ⟨g, 0, none⟩ a).setCell ⟨g, 1, none⟩ b) B k A n c l :=
  ⟨h.len, h.cap, h.max, fun hn => by
    obtain ⟨b', o, e, hB, hc⟩ := h.at_ hn
    refine ⟨b', o, e, hB, fun j hj => ?_⟩
    have hne := hb b' o e hn
    rw [World.cell?_setCell_other _ _ _ _ (fun e => hne (congrArg Addr.block e).symm), World.cell?_setCell_other _ _ _ _ (fun e => hne (congrArg Addr.block e).symm)]
    exact hc j hj⟩

theorem Num.len_Wn' {l : List Nat} {t b s m n : Nat} (h : Num 4294967296 l (Wn t b s m)) (hb : b ≤ 512) (ht : t ≤ 512) (hl : l.length = n) : n ≤ 40 := by
  rcases Nat.le_total m 513 with hm | hm
  · exact h.len_Wn hb ht hm hl
  · rw [Wn_stop hm (by omega)] at h
    exact h.len_Wn hb ht (Nat.le_refl _) hl

set_option maxRecDepth 100000 in
set_option maxHeartbeats 1600000 in
theorem tail_c (t b s k : Int) (w : World) (h1 : -9223372036854775808 ≤ k) (h2 : k ≤ 9223372036854775807) :
    Calls Try.prog 47 #[.int .i64 t, .int .i64 b, .int .i64 s, .int .i64 k] w (FracV w (STail t b s k)) := by
  obtain ⟨wa, hwa⟩ : ∃ wa, w.alloc (.cells #[.slice none 0 0, .slice none 0 0] 131) = wa := ⟨_, rfl⟩
  have hR := Blk.new w 131 #[.slice none 0 0, .slice none 0 0]
  have hba := (Below.refl w.heap.size w).alloc (Nat.le_refl _) (.cells #[.slice none 0 0, .slice none 0 0] 131)
  rw [hwa] at hR hba
  have HWA := hide hwa
  clear hwa
  have hsa := hR.lt
  by_cases hs : saneB t b = true ∧ saneB t s = true
  · obtain ⟨hs1, hs2⟩ := hs
    have a1 := saneB_true.1 hs1
    have a2 := saneB_true.1 hs2
    obtain ⟨T, rfl⟩ := Int.eq_ofNat_of_zero_le a1.1
    obtain ⟨b', rfl⟩ := Int.eq_ofNat_of_zero_le a1.2.2.1
    obtain ⟨s', rfl⟩ := Int.eq_ofNat_of_zero_le a2.2.2.1
    go_enter Try.func47, Try.ntmps47
    go_wp2_with fail
    rw [HWA.out]
    have c1 := sane_c T b' wa
    rw [hs1] at c1
    refine c1.mono ?_
    rintro e w' ⟨rfl, rfl⟩
    clear c1
    go_wp2_with fail
    have c2 := sane_c T s' wa
    rw [hs2] at c2
    refine c2.mono ?_
    rintro e w' ⟨rfl, rfl⟩
    clear c2
    go_wp2_with fail
    refine (ways_c T b' s' k wa (by omega) (by omega) (by omega) h1 h2).mono ?_
    rintro e w1 ⟨A1, n1, c1, l1, rfl, s1, N1, hb1⟩
    go_wp2_with fail
    have c3 := choose_c T (s' : Int) w1 (by omega) (by omega) (by omega)
    rw [Ci_nat] at c3
    refine c3.mono ?_
    rintro e w2 ⟨A2, n2, c2, l2, rfl, s2, N2, hb2⟩
    clear c3
    have hl1 := N1.len_Wn' (by omega) (by omega) s1.len
    have hl2 := N2.len_Cn (by omega) s2.len
    have hR2 := (hR.keep hb1).keep hb2
    have hbw2 := (hba.trans (hb1.mono (Nat.le_of_lt hsa))).trans (hb2.mono (Nat.le_trans (Nat.le_of_lt hsa) hb1.size))
    have s1' := (s1.below hb2).mono hb2.size
    clear hR hba s1 hb1 hb2
    have c4 := reduced_c _ _ _ _ _ _ _ _ w2 _ s1' s2 (Nat.le_refl _) N1.dig N2.dig (by omega) (by omega) (by rw [N2.val_]; exact Cn_pos (by omega))
    rw [N1.val_, N2.val_] at c4
    go_wp2_with fail
    refine c4.mono ?_
    rintro e w3 ⟨hb3, h3⟩
    clear c4
    have hR3 := hR2.keep hb3
    have hbw3 := hbw2.trans (hb3.mono hbw2.size)
    have hs23 := hR2.lt
    clear hb3 s1' s2
    have hr0 := hR3.cell 0
    have hr1 := hR3.cell 1
    have hf0 := hR3.frozen 0
    have hf1 := hR3.frozen 1
    simp at hr0 hr1
    rcases h3 with ⟨hF1, hF2, g, n, c, l, g', n', c', l', rfl, o1, M1, o2, M2⟩ | ⟨hF, rfl⟩
    · go_wp2
      have hR8 := hR3.two (.slice (some ⟨g, 0, none⟩) n c) (.slice (some ⟨g', 0, none⟩) n' c')
      have hb8 := below_two hbw3 (Nat.le_refl _) (.slice (some ⟨g, 0, none⟩) n c) (.slice (some ⟨g', 0, none⟩) n' c')
      have p1 := o1.two (g := w.heap.size) (fun g h => by have := (o1.lt h).1; omega) (.slice (some ⟨g, 0, none⟩) n c) (.slice (some ⟨g', 0, none⟩) n' c')
      have p2 := o2.two (g := w.heap.size) (fun g h => by have := (o2.lt h).1; omega) (.slice (some ⟨g, 0, none⟩) n c) (.slice (some ⟨g', 0, none⟩) n' c')
      generalize (w3.setCell ⟨w.heap.size, 0, none⟩ (.slice (some ⟨g, 0, none⟩) n c)).setCell ⟨w.heap.size, 1, none⟩ (.slice (some ⟨g', 0, none⟩) n' c') = w8 at *
      have q0 := hR8.cell 0
      have q1 := hR8.cell 1
      simp at q0 q1
      refine bodyPost_ret (v := .tuple #[.agg #[.slice (some ⟨g, 0, none⟩) n c, .slice (some ⟨g', 0, none⟩) n' c'], .int .i64 0]) (by simp [results, Try.results47, go_sem, q0, q1]) rfl ?_
      exact ⟨_, _, _, _, _, _, _, _, _, rfl, p1.sl, p2.sl, .inl ⟨hs1, hs2, .inl ⟨hF1, hF2, M1, M2, rfl⟩⟩, hb8⟩
    · go_wp2
      have hR8 := hR3.two (.slice none 0 0) (.slice none 0 0)
      have hb8 := below_two hbw3 (Nat.le_refl _) (.slice none 0 0) (.slice none 0 0)
      generalize (w3.setCell ⟨w.heap.size, 0, none⟩ (.slice none 0 0)).setCell ⟨w.heap.size, 1, none⟩ (.slice none 0 0) = w8 at *
      have q0 := hR8.cell 0
      have q1 := hR8.cell 1
      simp at q0 q1
      refine bodyPost_ret (v := .tuple #[.agg #[.slice none 0 0, .slice none 0 0], .int .i64 8]) (by simp [results, Try.results47, go_sem, q0, q1]) rfl ?_
      exact ⟨_, _, _, _, _, _, _, _, _, rfl, Sl.nil _ _ _ _ _ (by omega), Sl.nil _ _ _ _ _ (by omega), .inl ⟨hs1, hs2, .inr ⟨hF, rfl, rfl, rfl⟩⟩, hb8⟩
  · have hr0 := hR.cell 0
    have hr1 := hR.cell 1
    have hf0 := hR.frozen 0
    have hf1 := hR.frozen 1
    simp at hr0 hr1
    by_cases hs1 : saneB t b = true
    · have hs2 : saneB t s = false := by simpa [hs1] using hs
      go_enter Try.func47, Try.ntmps47
      go_wp2_with fail
      rw [HWA.out]
      have c1 := sane_c t b wa
      rw [hs1] at c1
      refine c1.mono ?_
      rintro e w' ⟨rfl, rfl⟩
      clear c1
      go_wp2_with fail
      have c2 := sane_c t s wa
      rw [hs2] at c2
      refine c2.mono ?_
      rintro e w' ⟨rfl, rfl⟩
      clear c2
      go_wp2
      have hR8 := hR.two (.slice none 0 0) (.slice none 0 0)
      have hb8 := below_two hba (Nat.le_refl _) (.slice none 0 0) (.slice none 0 0)
      generalize (wa.setCell ⟨w.heap.size, 0, none⟩ (.slice none 0 0)).setCell ⟨w.heap.size, 1, none⟩ (.slice none 0 0) = w8 at *
      have q0 := hR8.cell 0
      have q1 := hR8.cell 1
      simp at q0 q1
      refine bodyPost_ret (v := .tuple #[.agg #[.slice none 0 0, .slice none 0 0], .int .i64 3]) (by simp [results, Try.results47, go_sem, q0, q1]) rfl ?_
      exact ⟨_, _, _, _, _, _, _, _, _, rfl, Sl.nil _ _ _ _ _ (by omega), Sl.nil _ _ _ _ _ (by omega), .inr ⟨hs, rfl, rfl, rfl⟩, hb8⟩
    · have hs1' : saneB t b = false := by simpa using hs1
      go_enter Try.func47, Try.ntmps47
      go_wp2_with fail
      rw [HWA.out]
      have c1 := sane_c t b wa
      rw [hs1'] at c1
      refine c1.mono ?_
      rintro e w' ⟨rfl, rfl⟩
      clear c1
      go_wp2
      have hR8 := hR.two (.slice none 0 0) (.slice none 0 0)
      have hb8 := below_two hba (Nat.le_refl _) (.slice none 0 0) (.slice none 0 0)
      generalize (wa.setCell ⟨w.heap.size, 0, none⟩ (.slice none 0 0)).setCell ⟨w.heap.size, 1, none⟩ (.slice none 0 0) = w8 at *
      have q0 := hR8.cell 0
      have q1 := hR8.cell 1
      simp at q0 q1
      refine bodyPost_ret (v := .tuple #[.agg #[.slice none 0 0, .slice none 0 0], .int .i64 3]) (by simp [results, Try.results47, go_sem, q0, q1]) rfl ?_
      exact ⟨_, _, _, _, _, _, _, _, _, rfl, Sl.nil _ _ _ _ _ (by omega), Sl.nil _ _ _ _ _ (by omega), .inr ⟨hs, rfl, rfl, rfl⟩, hb8⟩
end Go.Proofs.Ytchhkokpjdkkiaa.Ex

namespace Go.Proofs.Ytchhkokpjdkkiaa.Ex
open Go.RowKit

/-- A number of the kit's own form, in new memory. -/
def NatF (w : World) (N : Nat) (e : Ending) (w' : World) : Prop :=
  ∃ A n c l, e = .returned (.slice A n c) ∧ Sl w' w'.heap.size .u32 A n c l ∧ Num 4294967296 l N ∧ Below w.heap.size w w' ∧ ∀ b o, A = some ⟨b, o, none⟩ → w.heap.size ≤ b

/-- A fraction and an error, in new memory. -/
def FracF (w : World) (S : List Nat → List Nat → Int → Prop) (e : Ending) (w' : World) : Prop :=
  ∃ A n c l A' n' c' l' err, e = .returned (.tuple #[.agg #[.slice A n c, .slice A' n' c'], .int .i64 err]) ∧ Sl w' w'.heap.size .u32 A n c l ∧ Sl w' w'.heap.size .u32 A' n' c' l' ∧ S l l' err ∧ Below w.heap.size w w' ∧
    (∀ b o, A = some ⟨b, o, none⟩ → w.heap.size ≤ b) ∧ (∀ b o, A' = some ⟨b, o, none⟩ → w.heap.size ≤ b)

end Go.Proofs.Ytchhkokpjdkkiaa.Ex

namespace Go.Proofs.Ytchhkokpjdkkiaa.Ex
open Go.RowKit

theorem OwnV.mono {w : World} {base base' : Nat} {E : TypeId} {A : Option Addr} {n c : Nat} {vs : List Value} (h : OwnV w base E A n c vs) (hb : base' ≤ base) : OwnV w base' E A n c vs := by
  refine ⟨h.len, h.one, h.row.1, ?_⟩
  rcases h.row.2 with h' | ⟨g, cap, cur, e, h1, rest⟩
  · exact .inl h'
  · exact .inr ⟨g, cap, cur, e, by omega, rest⟩
theorem lt_pow8 {N m k : Nat} (h : N ≤ 2 ^ m) (hk : m < 8 * k) : N < 256 ^ k := by
  have h1 : (2 : Nat) ^ m < 2 ^ (8 * k) := Nat.pow_lt_pow_right (by omega) hk
  rw [Nat.pow_mul] at h1
  exact Nat.lt_of_le_of_lt h h1
theorem Num.len8 {l : List Nat} {N m k n : Nat} (h : Num 256 l N) (hN : N ≤ 2 ^ m) (hk : m < 8 * k) (hl : l.length = n) : n ≤ k := by
  rw [← hl]; exact (h.length_le (by omega) k).2 (lt_pow8 hN hk)
theorem Num.len8_Cn {l : List Nat} {T j n : Nat} (h : Num 256 l (Cn T j)) (hT : T ≤ 512) (hl : l.length = n) : n ≤ 65 :=
  h.len8 (Nat.le_trans (Cn_le _ _) (Nat.pow_le_pow_right (by omega) hT)) (show 512 < 8 * 65 by omega) hl
theorem Nums.one {w : World} {A : Option Addr} {n c : Nat} {l : List Nat} {N : Nat → Nat} (hs : Sl w w.heap.size .i64 A n c l) (hn : Num 256 l (N 0)) (E : TypeId) :
    Nums (w.alloc (.cells #[.slice A n c] E)) (some w.heap.size) [.slice A n c] N := fun j hj => by
  obtain rfl : j = 0 := by simp at hj; omega
  have hbb := (Below.refl w.heap.size w).alloc (Nat.le_refl _) (.cells #[.slice A n c] E)
  exact ⟨A, n, c, l, rfl, (hs.below hbb).mono hbb.size, hn, fun hp g hg => by have := hs.pos hp g hg; simp; omega⟩

theorem prod_le10 {T j x e f : Nat} (hT : T ≤ e) (hx : x ≤ 2 ^ f) : Cn T j * x ≤ 2 ^ (e + f) := by
  rw [Nat.pow_add]
  exact Nat.mul_le_mul (Nat.le_trans (Cn_le _ _) (Nat.pow_le_pow_right (by omega) hT)) hx

theorem Num.len8_mulE {l : List Nat} {T j x e f k n : Nat} (h : Num 256 l (Cn T j * x)) (hT : T ≤ e) (hx : x ≤ 2 ^ f) (hk : e + f < 8 * k) (hl : l.length = n) : n ≤ k :=
  h.len8 (prod_le10 hT hx) hk hl
theorem Num.len8_mul {l : List Nat} {T j x n : Nat} (h : Num 256 l (Cn T j * x)) (hT : T ≤ 512) (hx : x ≤ 1024) (hl : l.length = n) : n ≤ 70 :=
  h.len8_mulE (e := 512) (f := 10) (k := 70) hT hx (by decide) hl

theorem Num.len8_prodE {l : List Nat} {a b c d e f k n : Nat} (h : Num 256 l (Cn a b * Cn c d)) (ha : a ≤ e) (hc : c ≤ f) (hk : e + f < 8 * k) (hl : l.length = n) : n ≤ k :=
  h.len8 (m := e + f) (by rw [Nat.pow_add]; exact Nat.mul_le_mul (Nat.le_trans (Cn_le _ _) (Nat.pow_le_pow_right (by omega) ha)) (Nat.le_trans (Cn_le _ _) (Nat.pow_le_pow_right (by omega) hc))) hk hl
theorem Num.len8_prod {l : List Nat} {a b c d n : Nat} (h : Num 256 l (Cn a b * Cn c d)) (ha : a ≤ 512) (hc : c ≤ 512) (hl : l.length = n) : n ≤ 130 :=
  h.len8_prodE (e := 512) (f := 512) (k := 130) ha hc (by decide) hl
theorem below_drewN0 {w w' : World} (h : Below w.drew.heap.size w.drew w') : Below w.heap.size w w' := ⟨h.os, h.tape, h.output, h.size, h.block⟩
theorem Num.len8_WnE {l : List Nat} {t b s m e f g k n : Nat} (h : Num 256 l (Wn t b s m)) (hb : b ≤ e) (ht : t ≤ e) (hf : e + e = f) (hm : m ≤ 2 ^ g) (hk : g + f < 8 * k) (hl : l.length = n) : n ≤ k :=
  h.len8 (m := g + f) (by rw [Nat.pow_add]; exact Nat.le_trans (Wn_le t b s e f hb ht hf m) (Nat.mul_le_mul_right _ hm)) hk hl
theorem Num.len8_Wn {l : List Nat} {t b s m n : Nat} (h : Num 256 l (Wn t b s m)) (hb : b ≤ 512) (ht : t ≤ 512) (hm : m ≤ 513) (hl : l.length = n) : n ≤ 130 :=
  h.len8_WnE (e := 512) (f := 1024) (g := 10) (k := 130) hb ht rfl (by omega) (by decide) hl

end Go.Proofs.Ytchhkokpjdkkiaa.Ex

namespace Go.Proofs.Ytchhkokpjdkkiaa.Ex
open Go.RowKit

theorem not_sane {t b s : Int} (h : ¬ (saneB t b = true ∧ saneB t s = true)) :
    t < 0 ∨ (0 ≤ t ∧ 512 < t) ∨ (0 ≤ t ∧ t ≤ 512 ∧ b < 0) ∨ (0 ≤ t ∧ t ≤ 512 ∧ 0 ≤ b ∧ t < b) ∨ (0 ≤ t ∧ t ≤ 512 ∧ 0 ≤ b ∧ b ≤ t ∧ s < 0) ∨ (0 ≤ t ∧ t ≤ 512 ∧ 0 ≤ b ∧ b ≤ t ∧ 0 ≤ s ∧ t < s) := by
  rw [saneB_true, saneB_true] at h
  omega

end Go.Proofs.Ytchhkokpjdkkiaa.Ex

namespace Go.Proofs.Ytchhkokpjdkkiaa.Ex
open Go.RowKit

end Go.Proofs.Ytchhkokpjdkkiaa.Ex

namespace Go.Proofs.Ytchhkokpjdkkiaa.Ex
open Go.RowKit

/-- The ball: how many sets of n things have fewer than m. -/
def Bn (n : Nat) : Nat → Nat
  | 0 => 0
  | m + 1 => Bn n m + Cn n m
theorem Bn_stop {n : Nat} : ∀ {m k : Nat}, n + 1 ≤ k → k ≤ m → Bn n m = Bn n k
  | 0, k, h1, h2 => by omega
  | m + 1, k, h1, h2 => by
    rcases Nat.lt_or_ge m k with h | h
    · obtain rfl : k = m + 1 := by omega
      rfl
    · rw [Bn, Bn_stop h1 h, Cn_gt n m (by omega)]; rfl
theorem Bn_le {n e : Nat} (hn : n ≤ e) : ∀ m : Nat, Bn n m ≤ m * 2 ^ e
  | 0 => by simp [Bn]
  | m + 1 => by
    rw [Bn, Nat.add_mul, Nat.one_mul]
    exact Nat.add_le_add (Bn_le hn m) (Nat.le_trans (Cn_le n m) (Nat.pow_le_pow_right (by omega) hn))
theorem Bn_bound {n e m g : Nat} (hn : n ≤ e) (hm : m ≤ 2 ^ g) : Bn n m ≤ 2 ^ (g + e) := by
  rw [Nat.pow_add]; exact Nat.le_trans (Bn_le hn m) (Nat.mul_le_mul_right _ hm)
theorem Num.len_BnE {l : List Nat} {t m e g k n : Nat} (h : Num 4294967296 l (Bn t m)) (ht : t ≤ e) (hm : m ≤ 2 ^ g) (hk : g + e < 32 * k) (hl : l.length = n) : n ≤ k := by
  rw [← hl]; exact (h.length_le (by omega) k).2 (lt_pow_of_le (Bn_bound ht hm) rfl k hk)
theorem Num.len_Bn {l : List Nat} {t m n : Nat} (h : Num 4294967296 l (Bn t m)) (ht : t ≤ 512) (hm : m ≤ 513) (hl : l.length = n) : n ≤ 17 :=
  h.len_BnE (e := 512) (g := 10) (k := 17) ht (by omega) (by decide) hl
theorem Num.len8_BnE {l : List Nat} {t m e g k n : Nat} (h : Num 256 l (Bn t m)) (ht : t ≤ e) (hm : m ≤ 2 ^ g) (hk : g + e < 8 * k) (hl : l.length = n) : n ≤ k :=
  h.len8 (Bn_bound ht hm) hk hl
theorem Num.len8_Bn {l : List Nat} {t m n : Nat} (h : Num 256 l (Bn t m)) (ht : t ≤ 512) (hm : m ≤ 513) (hl : l.length = n) : n ≤ 70 :=
  h.len8_BnE (e := 512) (g := 10) (k := 70) ht (by omega) (by decide) hl

/-- A number and an error in memory. -/
def NumV (w : World) (S : List Nat → Int → Prop) (e : Ending) (w' : World) : Prop :=
  ∃ A n c l err, e = .returned (.tuple #[.slice A n c, .int .i64 err]) ∧ Sl w' w'.heap.size .u32 A n c l ∧ S l err ∧ Below w.heap.size w w'

/-- A number where n is in the range, else the error 3. -/
def SCount (n : Int) (N : Nat) (l : List Nat) (err : Int) : Prop :=
  (0 ≤ n ∧ n ≤ 512 ∧ Num 4294967296 l N ∧ err = 0) ∨ (¬ (0 ≤ n ∧ n ≤ 512) ∧ l = [] ∧ err = 3)
theorem SCount.uniq {n : Int} {N : Nat} {l m : List Nat} {e f : Int} (h : SCount n N l e) (k : SCount n N m f) : l = m ∧ e = f := by
  rcases h with ⟨h1, h2, h3, h4⟩ | ⟨h1, h3, h4⟩ <;> rcases k with ⟨k1, k2, k3, k4⟩ | ⟨k1, k3, k4⟩
  · exact ⟨h3.uniq k3 (by omega), by rw [h4, k4]⟩
  · exact absurd ⟨h1, h2⟩ k1
  · exact absurd ⟨k1, k2⟩ h1
  · exact ⟨by rw [h3, k3], by rw [h4, k4]⟩

end Go.Proofs.Ytchhkokpjdkkiaa.Ex

namespace Go.Proofs.Ytchhkokpjdkkiaa.Ex

/-- Dividing by ten from the top: k limbs are left. -/
def ShortI (b : Nat) (l lo : List Nat) (k rest : Nat) : Prop :=
  lo.take k = l.take k ∧ val b (lo.drop k) = val b (l.drop k) / 10 ∧ rest = val b (l.drop k) % 10
theorem ShortI.start (b : Nat) (l : List Nat) (n : Nat) (h : l.length = n) : ShortI b l l n 0 := by
  refine ⟨rfl, ?_, ?_⟩ <;> rw [List.drop_of_length_le (by omega)] <;> simp [val]
theorem ShortI.step {b : Nat} {l lo : List Nat} {j rest x t : Nat} (h : ShortI b l lo (j + 1) rest) (hj : j < lo.length) (hjl : j < l.length) (hx : l.getD j 0 = x) (ht : t = rest * b + x) :
    ShortI b l (lo.set j (t / 10)) j (t % 10) := by
  obtain ⟨h1, h2, h3⟩ := h
  have e1 : l.drop j = x :: l.drop (j + 1) := by rw [List.drop_eq_getElem_cons hjl, ← hx]; simp [hjl]
  have e2 : (lo.set j (t / 10)).drop j = (t / 10) :: lo.drop (j + 1) := by
    rw [List.drop_eq_getElem_cons (by rw [List.length_set]; exact hj), drop_set_succ]; simp
  have h4 : val b (l.drop j) = 10 * (b * (val b (l.drop (j + 1)) / 10)) + t := by
    rw [e1]
    simp only [val]
    generalize val b (l.drop (j + 1)) = H at *
    have e := Nat.div_add_mod H 10
    rw [← h3] at e
    generalize H / 10 = q at *
    subst ht
    subst e
    grind
  refine ⟨?_, ?_, ?_⟩
  · rw [List.take_set, List.set_eq_of_length_le (by rw [List.length_take]; omega)]
    have := congrArg (List.take j) h1
    rw [List.take_take, List.take_take, Nat.min_eq_left (by omega)] at this
    exact this
  · rw [e2]
    simp only [val]
    rw [h2, h4]
    omega
  · rw [h4]; omega

/-- The decimal digits, the lowest one first. -/
def decF : Nat → Nat → List Nat
  | 0, _ => []
  | f + 1, n => if n = 0 then [] else n % 10 :: decF f (n / 10)
theorem decF_num : ∀ (f n : Nat), n ≤ f → Num 10 (decF f n) n
  | 0, n, h => by obtain rfl : n = 0 := by omega
                  exact Num.nil 10
  | f + 1, n, h => by
    unfold decF
    split
    · rename_i h0; subst h0; exact Num.nil 10
    · rename_i h0
      have ih := decF_num f (n / 10) (by omega)
      refine ⟨fun x hx => ?_, ?_, fun i hi => ?_⟩
      · rcases List.mem_cons.1 hx with rfl | hx
        · omega
        · exact ih.dig x hx
      · simp only [val]; rw [ih.val_]; omega
      · cases i with
        | zero =>
          have hl : (decF f (n / 10)).length = 0 := by simpa using hi
          have := (ih.zero_iff (by omega)).1 hl
          simp; omega
        | succ i =>
          have := ih.top i (by simpa using hi)
          simpa using this
def decD (n : Nat) : List Nat := decF n n
theorem decD_num (n : Nat) : Num 10 (decD n) n := decF_num n n (Nat.le_refl _)
theorem Num.dec {l : List Nat} {n : Nat} (h : Num 10 l n) : l = decD n := h.uniq (decD_num n) (by omega)
/-- The bytes of a number's text. -/
def textN (n : Nat) : List Nat := if n = 0 then [48] else (decD n).reverse.map (· + 48)
theorem decF_small {n : Nat} (h0 : 0 < n) (h : n < 10) : decD n = [n] := by
  refine (Num.dec ⟨Digs.one h, by simp [val], fun i hi => ?_⟩).symm
  obtain rfl : i = 0 := by simpa using hi.symm
  simp; omega

/-- Digits gathered so far, with what is left. -/
theorem Num10.snoc {d : List Nat} {V X x : Nat} (h : val 10 d + 10 ^ d.length * X = V) (hx : x = X % 10) : val 10 (d ++ [x]) + 10 ^ (d ++ [x]).length * (X / 10) = V := by
  rw [val_append, List.length_append, List.length_singleton, Nat.pow_succ]
  have e := Nat.div_add_mod X 10
  rw [← hx] at e
  generalize X / 10 = q at *
  subst e
  subst h
  simp only [val]
  grind

theorem map_getD (l : List Nat) (i : Nat) (h : i < l.length) : (l.map (· + 48)).getD i 0 = l.getD i 0 + 48 := by simp [h]

theorem ten_len {k X V n v : Nat} (h : v + 10 ^ k * X = V) (hX : 0 < X) (hV : V < 4294967296 ^ n) : k < 32 * n := by
  have h1 : 10 ^ k * 1 ≤ 10 ^ k * X := Nat.mul_le_mul_left _ hX
  have h2 : 2 ^ k ≤ 10 ^ k := Nat.pow_le_pow_left (by omega) k
  have h4 : (4294967296 : Nat) ^ n = 2 ^ (32 * n) := by rw [Nat.pow_mul]
  rw [h4] at hV
  exact (Nat.pow_lt_pow_iff_right (by omega)).1 (show 2 ^ k < 2 ^ (32 * n) by omega)

/-- What has been gathered of a number's digits, X left. -/
structure DecI (V X : Nat) (d : List Nat) : Prop where
  dig : Digs 10 d
  val_ : val 10 d + 10 ^ d.length * X = V
  top : X = 0 → ∀ i, d.length = i + 1 → d.getD i 0 ≠ 0
theorem DecI.start (V : Nat) : DecI V V [] := ⟨Digs.nil _, by simp [val], fun _ i h => by simp at h⟩
theorem DecI.step {V X : Nat} {d : List Nat} (h : DecI V X d) (hX : 0 < X) : DecI V (X / 10) (d ++ [X % 10]) := by
  refine ⟨h.dig.append (Digs.one (by omega)), Num10.snoc h.val_ rfl, fun h0 i hi => ?_⟩
  rw [List.length_append, List.length_singleton] at hi
  obtain rfl : d.length = i := by omega
  simp
  omega
theorem DecI.done {V : Nat} {d : List Nat} (h : DecI V 0 d) : Num 10 d V := ⟨h.dig, by have := h.val_; simpa using this, h.top rfl⟩

/-- Reversing: i elements are laid. -/
def RevI (lb lo : List Nat) (i : Nat) : Prop := lo.length = lb.length ∧ ∀ j, j < i → lo.getD (lb.length - 1 - j) 0 = lb.getD j 0
theorem RevI.step {lb lo : List Nat} {i x : Nat} (h : RevI lb lo i) (hi : i < lb.length) (hx : lb.getD i 0 = x) : RevI lb (lo.set (lb.length - 1 - i) x) (i + 1) := by
  refine ⟨by rw [List.length_set]; exact h.1, fun j hj => ?_⟩
  have hl := h.1
  by_cases hji : j = i
  · subst hji
    rw [hx, List.getD_eq_getElem?_getD, List.getElem?_set_self (by omega)]; rfl
  · rw [List.getD_eq_getElem?_getD, List.getElem?_set_ne (by omega), ← List.getD_eq_getElem?_getD]
    exact h.2 j (by omega)
theorem RevI.done {lb lo : List Nat} (h : RevI lb lo lb.length) : lo = lb.reverse := by
  refine List.ext_getElem (by rw [List.length_reverse]; exact h.1) fun k h1 h2 => ?_
  have hl := h.1
  have := h.2 (lb.length - 1 - k) (by omega)
  rw [show lb.length - 1 - (lb.length - 1 - k) = k by omega] at this
  rw [List.getElem_reverse]
  rw [List.getD_eq_getElem?_getD, List.getD_eq_getElem?_getD, List.getElem?_eq_getElem h1, List.getElem?_eq_getElem (by omega)] at this
  exact this
end Go.Proofs.Ytchhkokpjdkkiaa.Ex

namespace Go.Proofs.Ytchhkokpjdkkiaa.Ex
open Go.RowKit

theorem u64_join32 (r x : Nat) (hr : r < 10) (hx : x < 4294967296) : bits .or .u64 ((r : Int) * 4294967296) (x : Int) = ((r * 4294967296 + x : Nat) : Int) := by
  have := u64_or_nat (r * 4294967296) x (by omega) (by omega)
  rw [nat_join 32 _ _ (by omega) (by omega)] at this
  rw [← this]
  rfl

def strN (l : List Nat) : ByteArray := ⟨(l.map UInt8.ofNat).toArray⟩
theorem run_bytes_str {P : Program} {w : World} {B : Nat} {A : Option Addr} {n c : Nat} {l : List Nat} (h : Sl w B .u8 A n c l) {src dst e : TypeId} (hs : P.underlying src = some (.slice e)) (he : P.underlying e = some (.int .u8)) (hd : P.underlying dst = some .string) :
    (convert src dst (.slice A n c)).run P w = .ok (.string (strN l)) w := by
  rcases A with _ | ad
  · have h0 : n = 0 := by
      rcases Nat.eq_zero_or_pos n with h0 | h0
      · exact h0
      · obtain ⟨_, _, h, _⟩ := h.at_ h0; cases h
    subst h0
    rw [List.eq_nil_of_length_eq_zero h.len, run_convert_bytes_nil w src e hs he 0 c dst hd]
    rfl
  · rcases Nat.eq_zero_or_pos n with h0 | h0
    · subst h0
      rw [run_convert_bytes_string w src dst e _ 0 c hs he hd, run_bytesToString w ad 0 c [] (by simpa using run_loadCells_list (P := P) w ad [] (by simp)), List.eq_nil_of_length_eq_zero h.len]
      rfl
    · obtain ⟨b, off, e1, _, hc⟩ := h.at_ h0
      injection e1 with e1
      subst e1
      rw [run_convert_bytes_arg w src e hs he b off n c (l.map fun x : Nat => (x : Int)) (by simp [h.len]) (fun i hi => by
        rw [hc i hi]
        have : i < l.length := by rw [h.len]; exact hi
        simp [this]) dst hd]
      simp [strOfNums, strN, Function.comp_def]

theorem info_u8 : (Try.prog.info? 5).map (fun i => (i.zero, i.size, i.bytes)) = some (some (.int .u8 0), 1, 1) := by kernel_rfl

end Go.Proofs.Ytchhkokpjdkkiaa.Ex
