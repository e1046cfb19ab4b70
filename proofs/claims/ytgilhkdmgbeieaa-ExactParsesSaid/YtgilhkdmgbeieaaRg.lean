/- Contracts of the reference's row, ways. -/
import Derived.Test.YtgilhkdmgbeieaaRf
namespace Go.Proofs.Ytgilhkdmgbeieaa
open Go.RowKit

theorem OwnV.mono {w : World} {base base' : Nat} {E : TypeId} {A : Option Addr} {n c : Nat} {vs : List Value} (h : OwnV w base E A n c vs) (hb : base' ≤ base) : OwnV w base' E A n c vs := by
  refine ⟨h.len, h.one, h.row.1, ?_⟩
  rcases h.row.2 with h' | ⟨g, cap, cur, e, h1, rest⟩
  · exact .inl h'
  · exact .inr ⟨g, cap, cur, e, by omega, rest⟩
theorem lt_pow8 {N m k : Nat} (h : N ≤ 2 ^ m) (hk : m < 8 * k) : N < 256 ^ k := by
  have h1 : (2 : Nat) ^ m < 2 ^ (8 * k) := Nat.pow_lt_pow_right (by omega) hk
  rw [Nat.pow_mul] at h1
  exact Nat.lt_of_le_of_lt h h1
theorem Num.len8 {l : List Nat} {N m k n : Nat} (h : Num 256 l N) (hN : N ≤ 2 ^ m) (hk : m < 8 * k) (hl : l.length = n) : n ≤ k := by
  rw [← hl]; exact (h.length_le (by omega) k).2 (lt_pow8 hN hk)
theorem Num.len8_Cn {l : List Nat} {T j n : Nat} (h : Num 256 l (Cn T j)) (hT : T ≤ 512) (hl : l.length = n) : n ≤ 65 :=
  h.len8 (Nat.le_trans (Cn_le _ _) (Nat.pow_le_pow_right (by omega) hT)) (show 512 < 8 * 65 by omega) hl
theorem Nums.one {w : World} {A : Option Addr} {n c : Nat} {l : List Nat} {N : Nat → Nat} (hs : Sl w w.heap.size .i64 A n c l) (hn : Num 256 l (N 0)) (E : TypeId) :
    Nums (w.alloc (.cells #[.slice A n c] E)) (some w.heap.size) [.slice A n c] N := fun j hj => by
  obtain rfl : j = 0 := by simp at hj; omega
  have hbb := (Below.refl w.heap.size w).alloc (Nat.le_refl _) (.cells #[.slice A n c] E)
  exact ⟨A, n, c, l, rfl, (hs.below hbb).mono hbb.size, hn, fun hp g hg => by have := hs.pos hp g hg; simp; omega⟩

theorem prod_le10 {T j x e f : Nat} (hT : T ≤ e) (hx : x ≤ 2 ^ f) : Cn T j * x ≤ 2 ^ (e + f) := by
  rw [Nat.pow_add]
  exact Nat.mul_le_mul (Nat.le_trans (Cn_le _ _) (Nat.pow_le_pow_right (by omega) hT)) hx

theorem Num.len8_mulE {l : List Nat} {T j x e f k n : Nat} (h : Num 256 l (Cn T j * x)) (hT : T ≤ e) (hx : x ≤ 2 ^ f) (hk : e + f < 8 * k) (hl : l.length = n) : n ≤ k :=
  h.len8 (prod_le10 hT hx) hk hl
theorem Num.len8_mul {l : List Nat} {T j x n : Nat} (h : Num 256 l (Cn T j * x)) (hT : T ≤ 512) (hx : x ≤ 1024) (hl : l.length = n) : n ≤ 70 :=
  h.len8_mulE (e := 512) (f := 10) (k := 70) hT hx (by decide) hl

set_option maxRecDepth 100000 in
set_option maxHeartbeats 3200000 in
theorem rrow_c (T : Nat) (w : World) (hT : T ≤ 512) :
    Calls Try.prog 77 #[.int .i64 T] w fun e w' => ∃ A c vs, e = .returned (.slice A (T + 1) c) ∧ OwnV w' w.heap.size 82 A (T + 1) c vs ∧ Nums w' (A.map (·.block)) vs (Cn T) ∧ Below w.heap.size w w' := by
  go_enter Try.func77, Try.ntmps77
  go_wp2_with fail
  refine (small_c 1 w (by omega)).mono ?_
  rintro e w1 ⟨A1, n1, c1, l1, rfl, s1, N1, hb1, _⟩
  have hone := (OwnV.one1 w1 82 (.slice A1 n1 c1) rfl).mono hb1.size
  have hnum := Nums.one (N := Cn T) s1 (by rw [Cn_zero]; exact N1) 82
  have hbel := hb1.alloc hb1.size (.cells #[.slice A1 n1 c1] 82)
  clear s1 N1 hb1
  go_wp2
  go_loopw [3, 4] (fun rv iv wr => ∃ (k : Nat) (A : Option Addr) (c : Nat) (vs : List Value), 1 ≤ k ∧ k ≤ T + 1 ∧ iv = .int .i64 k ∧ rv = .slice A k c ∧ OwnV wr w.heap.size 82 A k c vs ∧ Nums wr (A.map (·.block)) vs (Cn T) ∧ Below w.heap.size w wr)
    (fun _ iv _ => T + 1 - (intOf iv).toNat)
  case atStart => exact ⟨1, _, _, _, by omega, by omega, rfl, rfl, hone, hnum, hbel⟩
  case round =>
    obtain ⟨k, A, c, vs, hk1, hk, rfl, rfl, ho, hN, hbw⟩ := hrel
    by_cases hgo : k ≤ T
    · obtain ⟨j, rfl⟩ : ∃ j, k = j + 1 := ⟨k - 1, by omega⟩
      obtain ⟨Ad, nd, cdd, ld, hv, hs, hn⟩ := hN.at_ (j := j) (by rw [ho.len]; omega)
      obtain ⟨g, rfl, hg, hcell⟩ := ho.cell hv
      have hnd := hn.len8_Cn hT hs.len
      have hwz := hbw.size
      have hj0 : (0 : Int) ≤ (j : Int) := by omega
      have hj1 : (j : Int) < (j : Int) + 1 := by omega
      have hj3 : IntKind.i64.wrap (j : Int) = (j : Int) := by simp [IntKind.wrap, IntKind.bits, IntKind.signed]; omega
      have hj2 : IntKind.i64.wrap ((j : Int) + 1 - 1) = (j : Int) := by rw [Int.add_sub_cancel]; exact hj3
      have hT0 : IntKind.i64.wrap ((T : Int) - ((j : Int) + 1)) = (T : Int) - ((j : Int) + 1) := by simp [IntKind.wrap, IntKind.bits, IntKind.signed]; omega
      have hT1 : IntKind.i64.wrap (IntKind.i64.wrap ((T : Int) - ((j : Int) + 1)) + 1) = ((T - j : Nat) : Int) := by rw [hT0]; simp [IntKind.wrap, IntKind.bits, IntKind.signed]; omega
      have hmulc : ∀ wx Ax nx cx lx, Below wr.heap.size wr wx → Sl wx wx.heap.size .i64 Ax nx cx lx → Num 256 lx (T - j) → Calls Try.prog 92 #[.slice Ad nd cdd, .slice Ax nx cx] wx (DigV wx (Cn T j * (T - j))) := fun wx Ax nx cx lx hbx sx tx => by
        have hl : nx ≤ 2 := by rw [← sx.len]; exact (tx.length_le (by omega) 2).2 (by omega)
        have := rmul_c _ _ _ _ _ _ _ _ wx _ ((hs.below hbx).mono hbx.size) sx (Nat.le_refl _) hn.dig tx.dig (by omega) (by omega)
        rwa [hn.val_, tx.val_] at this
      have hdivc : ∀ wx Ax nx cx lx Ay ny cy ly, Below wr.heap.size wr wx → Sl wx wx.heap.size .i64 Ax nx cx lx → Num 256 lx (Cn T j * (T - j)) → Sl wx wx.heap.size .i64 Ay ny cy ly → Num 256 ly (j + 1) → Calls Try.prog 120 #[.slice Ax nx cx, .slice Ay ny cy] wx fun e w' =>
          ∃ Aq nq cq lq Ar nr cr, e = .returned (.tuple #[.slice Aq nq cq, .slice Ar nr cr]) ∧ Sl w' w'.heap.size .i64 Aq nq cq lq ∧ Num 256 lq (Cn T (j + 1)) ∧ Below wx.heap.size wx w' ∧ (0 < nq → ∀ h, Aq.map (·.block) = some h → some h ≠ some g) := fun wx Ax nx cx lx Ay ny cy ly hbx sx tx sy ty => by
        have hl : nx ≤ 70 := tx.len8_mul hT (by omega) sx.len
        have := rdivide_c _ _ _ _ _ _ _ _ _ _ wx _ sx sy (Nat.le_refl _) tx ty (by omega) (by omega)
        rw [Cn_next] at this
        refine this.mono ?_
        rintro e w' ⟨Aq, nq, cq, lq, Ar, nr, cr, lr, rfl, sq, _, tq, _, hbq, hfq⟩
        exact ⟨Aq, nq, cq, lq, Ar, nr, cr, rfl, sq, tq, hbq, fun _ h hh => by have h1 := hfq h hh; have h2 := hbx.size; intro h3; cases h3; omega⟩
      have hb0 : Below wr.heap.size wr wr := Below.refl _ _
      have keep : ∀ wx wy : World, (wx.cell? ⟨g, j, none⟩ = some (.slice Ad nd cdd) ∧ Below wr.heap.size wr wx) → Below wx.heap.size wx wy → wy.cell? ⟨g, j, none⟩ = some (.slice Ad nd cdd) ∧ Below wr.heap.size wr wy := fun wx wy ⟨h1, h2⟩ h3 =>
        ⟨cell_keep (h2.trans (h3.mono h2.size)) hg hcell, h2.trans (h3.mono h2.size)⟩
      have KP := hide keep
      clear keep
      have hsm1 : ∀ wx, Calls Try.prog 121 #[.int .i64 (IntKind.i64.wrap (IntKind.i64.wrap ((T : Int) - ((j : Int) + 1)) + 1))] wx (DigV wx (T - j)) := fun wx => by rw [hT1]; exact small_c _ _ (by omega)
      have hsm2 : ∀ wx, Calls Try.prog 121 #[.int .i64 ((j : Int) + 1)] wx (DigV wx (j + 1)) := fun wx => small_c (j + 1) wx (by omega)
      have H1 := hide hsm1
      have H2 := hide hsm2
      clear hsm1 hsm2 hT0 hT1
      have HM := hide hmulc
      have HD := hide hdivc
      clear hmulc hdivc
      go_wp2_with fail
      rw [show ((j + 1 : Nat) : Int) = (j : Int) + 1 from rfl]
      go_region_held3 (fun w' => w'.cell? ⟨g, j, none⟩ = some (.slice Ad nd cdd) ∧ Below wr.heap.size wr w')
        (first | exact ⟨hcell, hb0.drew⟩ | exact KP.out _ _ (by assumption) hbs1 | exact KP.out _ _ (by assumption) hbs2 | exact KP.out _ _ (by assumption) hbm | exact KP.out _ _ (by assumption) hbq)
        (first
          | (go_at_call_of 121 (T : Int); refine (H1.out _).mono ?_; rintro e wz ⟨As1, ns1, cs1, ls1, rfl, ss1, ts1, hbs1, _⟩)
          | (go_at_call_of 121 (j : Int); refine (H2.out _).mono ?_; rintro e wz ⟨As2, ns2, cs2, ls2, rfl, ss2, ts2, hbs2, _⟩)
          | (go_at_call 92; refine (HM.out _ _ _ _ _ (And.right (by assumption)) (by first | exact ss1 | exact (ss1.below hbs2).mono hbs2.size) ts1).mono ?_; rintro e wz ⟨Am, nm, cm, lm, rfl, sm, tm, hbm, _⟩)
          | (go_at_call 120
             refine (HD.out _ _ _ _ _ _ _ _ _ (And.right (by assumption)) (by first | exact sm | exact (sm.below hbs2).mono hbs2.size) tm (by first | exact ss2 | exact (ss2.below hbm).mono hbm.size | exact (((ss2.below hbs1).mono hbs1.size).below hbm).mono hbm.size) ts2).mono ?_; rintro e wz ⟨Aq, nq, cq, lq, Ar, nr, cr, rfl, sq, tq, hbq, hfq⟩)
          | fail)
      all_goals
        obtain ⟨_, hbz⟩ : wz.cell? ⟨g, j, none⟩ = some (.slice Ad nd cdd) ∧ Below wr.heap.size wr wz := by assumption
        have hal := (Below.refl wz.heap.size wz).alloc (Nat.le_refl _) (.cells #[.slice Aq nq cq] 82)
        have hzz := hbz.size
        have ho2 := (ho.below hbz (Nat.le_refl _)).alloc (.cells #[.slice Aq nq cq] 82)
        have hN2 := (hN.below hbz (Nat.le_refl _)).below hal (Nat.le_refl _)
        have hb4 := (hbw.trans (hbz.mono hwz)).alloc (by omega) (.cells #[.slice Aq nq cq] 82)
        have sq2 := (sq.below hal).mono hal.size
        clear hN hbw hbz hal
        go_wp2_with (first
          | (at_builtin; refine wl_appendV _ rfl (.tmp 31) (.tmp 33) _ rfl w.heap.size 82 (.slice none 0 0) rfl 24 Try.underlying84 info_row (by omega) _ _ _ _ (by rfl) ho2 ⟨wz.heap.size, 0, none⟩ 1 (.slice Aq nq cq) (by rfl) (by simp) rfl (by omega) (by simp; omega) ?_; intro A3 c3 w3 ho3 hg3 hA3 _))
        go_roundw
        case rel =>
          have hN3 := Nums.push (A := some ⟨g, 0, none⟩) hN2 sq2 (by rw [ho.len]; exact tq) hfq hg3 hA3
          exact ⟨j + 2, A3, c3, _, by omega, by omega, rfl, rfl, ho3, hN3, hb4.grown hg3 (by simp; omega) (fun k hk => by have := ho.lt (g := g) rfl; simp at hk; omega)⟩
        case measure => simp [intOf] <;> omega
    · obtain rfl : k = T + 1 := by omega
      go_wp2
      go_ret
      exact ⟨_, _, _, rfl, ho, hN, hbw⟩

theorem Num.len8_prodE {l : List Nat} {a b c d e f k n : Nat} (h : Num 256 l (Cn a b * Cn c d)) (ha : a ≤ e) (hc : c ≤ f) (hk : e + f < 8 * k) (hl : l.length = n) : n ≤ k :=
  h.len8 (m := e + f) (by rw [Nat.pow_add]; exact Nat.mul_le_mul (Nat.le_trans (Cn_le _ _) (Nat.pow_le_pow_right (by omega) ha)) (Nat.le_trans (Cn_le _ _) (Nat.pow_le_pow_right (by omega) hc))) hk hl
theorem Num.len8_prod {l : List Nat} {a b c d n : Nat} (h : Num 256 l (Cn a b * Cn c d)) (ha : a ≤ 512) (hc : c ≤ 512) (hl : l.length = n) : n ≤ 130 :=
  h.len8_prodE (e := 512) (f := 512) (k := 130) ha hc (by decide) hl
theorem below_drewN0 {w w' : World} (h : Below w.drew.heap.size w.drew w') : Below w.heap.size w w' := ⟨h.os, h.tape, h.output, h.size, h.block⟩
theorem Num.len8_WnE {l : List Nat} {t b s m e f g k n : Nat} (h : Num 256 l (Wn t b s m)) (hb : b ≤ e) (ht : t ≤ e) (hf : e + e = f) (hm : m ≤ 2 ^ g) (hk : g + f < 8 * k) (hl : l.length = n) : n ≤ k :=
  h.len8 (m := g + f) (by rw [Nat.pow_add]; exact Nat.le_trans (Wn_le t b s e f hb ht hf m) (Nat.mul_le_mul_right _ hm)) hk hl
theorem Num.len8_Wn {l : List Nat} {t b s m n : Nat} (h : Num 256 l (Wn t b s m)) (hb : b ≤ 512) (ht : t ≤ 512) (hm : m ≤ 513) (hl : l.length = n) : n ≤ 130 :=
  h.len8_WnE (e := 512) (f := 1024) (g := 10) (k := 130) hb ht rfl (by omega) (by decide) hl

set_option maxRecDepth 100000 in
set_option maxHeartbeats 3200000 in
theorem rways_c (T b s : Nat) (seen : Int) (w : World) (hT : T ≤ 512) (hb : b ≤ T) (hs : s ≤ T) (h1 : -9223372036854775808 ≤ seen) (h2 : seen ≤ 9223372036854775807) :
    Calls Try.prog 76 #[.int .i64 T, .int .i64 b, .int .i64 s, .int .i64 seen] w (DigW w (Wn T b s (seen + 1).toNat)) := by
  obtain ⟨R, rfl⟩ : ∃ R, T = b + R := ⟨T - b, by omega⟩
  go_enter Try.func76, Try.ntmps76
  go_wp2_with fail
  refine (rrow_c b w (by omega)).mono ?_
  rintro e w1 ⟨A1, c1, vs1, rfl, o1, N1, hb1⟩
  go_wp2_with fail
  rw [show (b : Int) + (R : Int) - (b : Int) = (R : Int) by omega]
  refine (rrow_c R w1 (by omega)).mono ?_
  rintro e w2 ⟨A2, c2, vs2, rfl, o2, N2, hb2⟩
  have o1' := o1.below hb2 (Nat.le_refl _)
  have N1' := N1.below hb2 (Nat.le_refl _)
  have hbw2 := hb1.trans (hb2.mono hb1.size)
  clear o1 N1 hb1 hb2
  go_wp2
  go_loopw [11, 12] (fun sv iv wr => ∃ (i : Nat) (A0 : Option Addr) (n0 c0 : Nat) (l0 : List Nat), i ≤ b + 1 ∧ i ≤ s + 1 ∧ i ≤ (seen + 1).toNat ∧ iv = .int .i64 i ∧ sv = .slice A0 n0 c0 ∧ Sl wr wr.heap.size .i64 A0 n0 c0 l0 ∧ Num 256 l0 (Wn (b + R) b s i) ∧ Below w2.heap.size w2 wr)
    (fun _ iv _ => b + 1 - (intOf iv).toNat)
  case atStart => exact ⟨0, none, 0, 0, [], by omega, by omega, by omega, rfl, rfl, Sl.nil _ _ _ _ _ (by omega), Num.nil _, Below.refl _ _⟩
  case round =>
    obtain ⟨i, A0, n0, c0, l0, hib, his, hik, rfl, rfl, s0, N0, hbw⟩ := hrel
    have hz := hbw.size
    by_cases hgo : (i : Int) ≤ seen ∧ i ≤ b ∧ i ≤ s
    · obtain ⟨g1, g2, g3⟩ := hgo
      have hl0 := N0.len8_Wn (by omega) (by omega) (by omega) s0.len
      obtain ⟨q, rfl⟩ : ∃ q, s = i + q := ⟨s - i, by omega⟩
      have hW : Wn (b + R) b (i + q) (i + 1) = Wn (b + R) b (i + q) i + Cn b i * Cn R q := by
        rw [Wn, if_pos (by omega), show b + R - b = R by omega, show i + q - i = q by omega]
      by_cases hq : q ≤ R
      · obtain ⟨Ax, nx, cx, lx, hvx, sx, tx⟩ := N1'.at_ (j := i) (by rw [o1'.len]; omega)
        obtain ⟨ga, rfl, hga, hca⟩ := o1'.cell hvx
        obtain ⟨Ay, ny, cy, ly, hvy, sy, ty⟩ := N2.at_ (j := q) (by rw [o2.len]; omega)
        obtain ⟨gb, rfl, hgb, hcb⟩ := o2.cell hvy
        have hlx := tx.len8_Cn (by omega) sx.len
        have hly := ty.len8_Cn (by omega) sy.len
        have hqw : IntKind.i64.wrap (q : Int) = (q : Int) := by simp [IntKind.wrap, IntKind.bits, IntKind.signed]; omega
        have hqw2 : IntKind.i64.wrap ((i : Int) + (q : Int) - (i : Int)) = (q : Int) := by rw [show (i : Int) + (q : Int) - (i : Int) = (q : Int) by omega]; exact hqw
        have hi0 : (0 : Int) ≤ (i : Int) := by omega
        have hi1 : (i : Int) < (b : Int) + 1 := by omega
        have hq0 : (0 : Int) ≤ (q : Int) := by omega
        have hq1 : (q : Int) < (R : Int) + 1 := by omega
        have hca3 := cell_keep hbw hga hca
        have hcb3 := cell_keep hbw hgb hcb
        have hmul : Calls Try.prog 92 #[.slice Ax nx cx, .slice Ay ny cy] wr.drew (DigV wr.drew (Cn b i * Cn R q)) := by
          have := rmul_c _ _ _ _ _ _ _ _ wr.drew _ (((sx.below hbw).mono hz).drew) (((sy.below hbw).mono hz).drew) (Nat.le_refl _) tx.dig ty.dig (by omega) (by omega)
          rwa [tx.val_, ty.val_] at this
        have hn2 : ∀ wx Am nm cm lm, Below wr.drew.heap.size wr.drew wx → Sl wx wx.heap.size .i64 Am nm cm lm → Num 256 lm (Cn b i * Cn R q) → Calls Try.prog 88 #[.slice A0 n0 c0, .slice Am nm cm] wx (DigV wx (Wn (b + R) b (i + q) (i + 1))) := fun wx Am nm cm lm hbx sm tm => by
          have hl : nm ≤ 130 := tm.len8_prod (by omega) (by omega) sm.len
          have := radd_c _ _ _ _ _ _ _ _ wx _ ((s0.drew.below hbx).mono hbx.size) sm (Nat.le_refl _) N0.dig tm.dig (by omega) (by omega)
          rwa [N0.val_, tm.val_, ← hW] at this
        have HA := hide hn2
        clear hn2
        go_wp2_with fail
        rw [show ((i + q : Nat) : Int) = (i : Int) + (q : Int) from rfl]
        go_region_held3 (fun w' => w'.cell? ⟨ga, i, none⟩ = some (.slice Ax nx cx) ∧ w'.cell? ⟨gb, q, none⟩ = some (.slice Ay ny cy))
          (first | exact ⟨hca3, hcb3⟩ | exact ⟨cell_keep hbm (Nat.lt_of_lt_of_le hga hz) hca3, cell_keep hbm (Nat.lt_of_lt_of_le hgb hz) hcb3⟩ | exact ⟨cell_keep hba (Nat.lt_of_lt_of_le hga (Nat.le_trans hz hbm.size)) (And.left (by assumption)), cell_keep hba (Nat.lt_of_lt_of_le hgb (Nat.le_trans hz hbm.size)) (And.right (by assumption))⟩)
          (first
            | (go_at_call 92; refine hmul.mono ?_; rintro e wz ⟨Am, nm, cm, lm, rfl, sm, tm, hbm, _⟩)
            | (go_at_call 88; refine (HA.out _ _ _ _ _ hbm sm tm).mono ?_; rintro e wy ⟨As, ns, cs, ls, rfl, ss, ts, hba, _⟩)
            | fail)
        rw [show (i : Int) + (q : Int) = ((i + q : Nat) : Int) from rfl]
        go_wp2
        go_roundw
        case rel => exact ⟨i + 1, As, ns, cs, ls, by omega, by omega, by omega, by go_num, rfl, ss, ts, hbw.trans ((below_drewN0 hbm).trans (hba.mono hbm.size) |>.mono hz)⟩
        case measure => simp [intOf] <;> omega
      · have hz0 : Cn R q = 0 := Cn_gt _ _ (by omega)
        rw [hz0, Nat.mul_zero, Nat.add_zero] at hW
        have N0' : Num 256 l0 (Wn (b + R) b (i + q) (i + 1)) := by rw [hW]; exact N0
        go_wp2
        go_roundw
        case rel => exact ⟨i + 1, A0, n0, c0, l0, by omega, by omega, by omega, by go_num, rfl, s0, N0', hbw⟩
        case measure => simp [intOf] <;> omega
    · have hW : Wn (b + R) b s i = Wn (b + R) b s (seen + 1).toNat := by
        by_cases hk : (i : Int) ≤ seen
        · exact (Wn_stop hik (by omega)).symm
        · rw [show i = (seen + 1).toNat by omega]
      rw [hW] at N0
      by_cases k1 : (i : Int) ≤ seen
      · by_cases k2 : i ≤ b
        · have k3 : ¬ i ≤ s := fun h => hgo ⟨k1, k2, h⟩
          go_wp2
          go_ret
          exact ⟨_, _, _, _, rfl, s0, N0, hbw2.trans (hbw.mono hbw2.size)⟩
        · go_wp2
          go_ret
          exact ⟨_, _, _, _, rfl, s0, N0, hbw2.trans (hbw.mono hbw2.size)⟩
      · go_wp2
        go_ret
        exact ⟨_, _, _, _, rfl, s0, N0, hbw2.trans (hbw.mono hbw2.size)⟩
end Go.Proofs.Ytgilhkdmgbeieaa
