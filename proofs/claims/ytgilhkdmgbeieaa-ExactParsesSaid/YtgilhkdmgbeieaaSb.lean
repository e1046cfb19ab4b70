/- The contract of the reference's Bound. -/
import Derived.Test.YtgilhkdmgbeieaaSa
import Derived.Test.YtgilhkdmgbeieaaPd
import Derived.Test.YtgilhkdmgbeieaaRg
namespace Go.Proofs.Ytgilhkdmgbeieaa
open Go.RowKit

theorem DigV.w {w w' : World} {N : Nat} {e : Ending} (h : DigV w N e w') : DigW w N e w' := by
  obtain ⟨A, n, c, l, he, s, t, b, _⟩ := h
  exact ⟨A, n, c, l, he, s, t, b⟩
theorem Num.l256 {l : List Nat} {N n : Nat} (h : Num 256 l N) (hf : Fits N) (hl : l.length = n) : n ≤ 256 := by rw [← hl]; exact h.fits8.2 hf
theorem FA.Rd.fn {f : FA} {w : World} {B : Nat} (h : f.Rd w B) (hn : f.n ≤ 64) : Fits (val 4294967296 f.l) := h.num.fits h.dn hn
theorem FA.Rd.fd {f : FA} {w : World} {B : Nat} (h : f.Rd w B) (hn : f.n' ≤ 64) : Fits (val 4294967296 f.l') := h.den.fits h.dd hn

set_option maxRecDepth 100000 in
set_option maxHeartbeats 6400000 in
theorem rbound_c (T k s : Int) (f : FA) (w : World) (B : Nat) (hf : f.Rd w B) (hB : B ≤ w.heap.size) :
    Calls Try.prog 35 #[.int .i64 T, .int .i64 k, .int .i64 s, .agg #[.slice f.A f.n f.c, .slice f.A' f.n' f.c']] w
      fun e w' => ∃ b err, e = .returned (.tuple #[.int .i64 b, .int .i64 err]) ∧ SBound T k s f b err ∧ Below w.heap.size w w' := by
  have hb := (Below.refl w.heap.size w).alloc (Nat.le_refl _) (.cells #[.slice f.A f.n f.c, .slice f.A' f.n' f.c'] 25)
  have X1 := Blk.new w 25 #[.slice f.A f.n f.c, .slice f.A' f.n' f.c']
  obtain ⟨c0, c1⟩ := X1.cells2
  have hg : w.heap.size < (w.alloc (.cells #[.slice f.A f.n f.c, .slice f.A' f.n' f.c'] 25)).heap.size := by simp
  go_enter Try.func35, Try.ntmps35
  go_wp2_with fail
  generalize w.alloc (.cells #[.slice f.A f.n f.c, .slice f.A' f.n' f.c'] 25) = w1 at *
  have hf1 := (hf.below (hb.mono hB)).mono (show B ≤ w1.heap.size by omega)
  refine (rcheckfrac_c f w1 _ hf1 (Nat.le_refl _)).mono ?_
  rintro e w2 ⟨rfl, hb2⟩
  obtain ⟨cn, cd⟩ := (X1.keep hb2).cells2
  have hf2 := (hf1.below hb2).mono hb2.size
  have hbw2 := hb.trans (hb2.mono (by omega))
  have hg2 : w.heap.size < w2.heap.size := (X1.keep hb2).lt
  clear X1 c0 c1 hg hf1 hb hb2
  obtain ⟨er, her⟩ : ∃ er, errV [f] = er := ⟨_, rfl⟩
  have HE := hide her
  rw [her]
  clear her
  by_cases h0 : er = 0
  · subst h0
    obtain ⟨p1, p2, p3⟩ := errV_one HE.out
    by_cases hok : saneB T k = true ∧ 0 ≤ s ∧ s ≤ k
    · obtain ⟨hsan, hs0, hsk⟩ := hok
      obtain ⟨hT0, hT1, hk0, hk1⟩ := saneB_true.1 hsan
      obtain ⟨T, rfl⟩ := Int.eq_ofNat_of_zero_le hT0
      obtain ⟨k, rfl⟩ := Int.eq_ofNat_of_zero_le hk0
      obtain ⟨s, rfl⟩ := Int.eq_ofNat_of_zero_le hs0
      obtain ⟨num, hnum⟩ : ∃ num, val 4294967296 f.l = num := ⟨_, rfl⟩
      obtain ⟨den, hden⟩ : ∃ den, val 4294967296 f.l' = den := ⟨_, rfl⟩
      have fn := hf2.fn p1
      have fd := hf2.fd p2
      rw [hnum] at fn
      rw [hden] at fd
      have key1 : ∀ wx, Below w2.heap.size w2 wx → Calls Try.prog 83 #[.slice f.A f.n f.c] wx (DigV wx num) := fun wx hbx => by
        have t := rdigits_c _ _ _ _ wx _ ((hf2.num.below hbx).mono hbx.size) (Nat.le_refl _) hf2.dn (by omega)
        rwa [hnum] at t
      have key2 : ∀ wx, Below w2.heap.size w2 wx → Calls Try.prog 83 #[.slice f.A' f.n' f.c'] wx (DigV wx den) := fun wx hbx => by
        have t := rdigits_c _ _ _ _ wx _ ((hf2.den.below hbx).mono hbx.size) (Nat.le_refl _) hf2.dd (by omega)
        rwa [hden] at t
      obtain ⟨z, hz⟩ : ∃ z, ordI num den = z := ⟨_, rfl⟩
      have key3 : ∀ wx Ax nx cx lx Ay ny cy ly, Sl wx wx.heap.size .i64 Ax nx cx lx → Num 256 lx num → Sl wx wx.heap.size .i64 Ay ny cy ly → Num 256 ly den → Calls Try.prog 91 #[.slice Ax nx cx, .slice Ay ny cy] wx fun e w' => e = .returned (.int .i64 z) ∧ Below wx.heap.size wx w' := fun wx Ax nx cx lx Ay ny cy ly sx tx sy ty => by
        have t := rcompare_c _ _ _ _ _ _ _ _ _ _ wx _ sx sy tx ty
        rw [hz] at t
        exact t.mono fun _ _ ⟨h, q, hq⟩ => ⟨h, hq ▸ below_drewN (Below.refl _ _) q⟩
      have keep : ∀ wx, Below w2.heap.size w2 wx → wx.cell? ⟨w.heap.size, 0, none⟩ = some (.slice f.A f.n f.c) ∧ wx.cell? ⟨w.heap.size, 1, none⟩ = some (.slice f.A' f.n' f.c') ∧ Below w2.heap.size w2 wx := fun wx hbx =>
        ⟨cells_keep cn hbx, cells_keep cd hbx, hbx⟩
      have hzp : (den ≤ num ∧ 0 ≤ z) ∨ (num < den ∧ z = -1) := by
        rcases Nat.lt_or_ge num den with h | h
        · exact .inr ⟨h, by rw [← hz, ordI_lt h]⟩
        · refine .inl ⟨h, ?_⟩
          rw [← hz]
          unfold ordI
          rw [if_neg (by omega)]
          split <;> omega
      have K1 := hide key1
      have K2 := hide key2
      have K3 := hide key3
      have KB := hide keep
      have HNUM := hide hnum
      have HDEN := hide hden
      clear key1 key2 key3 keep hnum hden hz hf2
      have hb22 := Below.refl w2.heap.size w2
      go_wp2
      go_region_held3 (fun wx => wx.cell? ⟨w.heap.size, 0, none⟩ = some (.slice f.A f.n f.c) ∧ wx.cell? ⟨w.heap.size, 1, none⟩ = some (.slice f.A' f.n' f.c') ∧ Below w2.heap.size w2 wx)
        (first | exact KB.out _ hb22.drew | exact KB.out _ hW1 | exact KB.out _ hW2 | exact KB.out _ hW3 | fail)
        (first
          | (go_at_call_of 83 (Value.slice f.A f.n f.c); refine (K1.out _ ?_).mono ?_; (exact And.right (And.right (by assumption))); rintro e wz ⟨A3, n3, c3, l3, rfl, s3, N3, hbz1, _⟩; have hW1 : Below w2.heap.size w2 wz := Go.Below.step (And.right (And.right (by assumption))) hbz1 (Nat.le_refl _))
          | (go_at_call_of 83 (Value.slice f.A' f.n' f.c'); refine (K2.out _ ?_).mono ?_; (exact And.right (And.right (by assumption))); rintro e wz ⟨A4, n4, c4, l4, rfl, s4, N4, hbz2, _⟩; have hW2 : Below w2.heap.size w2 wz := Go.Below.step (And.right (And.right (by assumption))) hbz2 (Nat.le_refl _))
          | (go_at_call 91; refine (K3.out _ _ _ _ l3 _ _ _ l4 (by first | exact s3 | exact (s3.below hbz2).mono hbz2.size) N3 (by first | exact s4 | exact (s4.below hbz1).mono hbz1.size) N4).mono ?_; rintro e wz ⟨rfl, hbz3⟩; have hW3 : Below w2.heap.size w2 wz := Go.Below.step (And.right (And.right (by assumption))) hbz3 (Nat.le_refl _))
          | fail)
      all_goals
        clear hW1 hW2 hbz1 hbz2 hbz3 s3 s4 N3 N4
        rcases hzp with ⟨hle, hz0⟩ | ⟨hlt9, rfl⟩
        · go_wp2
          go_ret2
          exact ⟨_, _, rfl, .inr (.inr (.inl ⟨HE.out, ⟨hsan, by omega, by omega⟩, by rw [HNUM.out, HDEN.out]; exact hle, rfl, rfl⟩)), hbw2.trans (hW3.mono hbw2.size)⟩
        · obtain ⟨cn3, cd3, _⟩ := KB.out _ hW3
          go_wp2_with fail
          refine (K1.out _ hW3).mono ?_
          rintro e w4 ⟨A4, n4, c4, l4, rfl, s4, N4, hb4, _⟩
          have hW4 := Go.Below.step hW3 hb4 (Nat.le_refl _)
          go_wp2_with fail
          refine (rrow_c T w4 (by omega)).mono ?_
          rintro e w5 ⟨A5, c5, vs, rfl, o5, N5, hb5⟩
          have hW5 := Go.Below.step hW4 hb5 (Nat.le_refl _)
          have s5 := (s4.below hb5).mono hb5.size
          obtain ⟨Ad, nd, cdd, ld, hv, sd, Nd⟩ := N5.at_ (j := k) (by rw [o5.len]; omega)
          obtain ⟨g, rfl, hg, hcell⟩ := o5.cell hv
          have hl4 := N4.l256 fn s4.len
          have hld := Nd.len8_Cn (by omega) sd.len
          clear hv s4 hb4 hb5
          have t5 := rmul_c _ _ _ _ _ _ _ _ w5 _ s5 sd (Nat.le_refl _) N4.dig Nd.dig (by omega) (by omega)
          rw [N4.val_, Nd.val_] at t5
          go_wp2_with fail
          refine t5.mono ?_
          rintro e w6 ⟨A6, n6, c6, l6, rfl, s6, N6, hb6, _⟩
          have hW6 := Go.Below.step hW5 hb6 (Nat.le_refl _)
          clear t5 hcell hg s5 sd Nd o5 N5 hb6 cn3 cd3
          obtain ⟨P, hP⟩ : ∃ P : Nat → Bool, Hid (possN T k s num den = P) := ⟨_, rfl⟩
          have hs9 : s ≤ T := by omega
          have key2 : ∀ wx, Below w6.heap.size w6 wx → Calls Try.prog 83 #[.slice f.A' f.n' f.c'] wx (DigV wx den) := fun wx hbx => K2.out wx (Go.Below.step hW6 hbx (Nat.le_refl _))
          have key4 : ∀ m wx, m ≤ T → Calls Try.prog 76 #[.int .i64 T, .int .i64 m, .int .i64 k, .int .i64 s] wx (DigW wx (Wn T m k (s + 1))) := fun m wx hm => by
            have t := rways_c T m k s wx (by omega) hm (by omega) (by omega) (by omega)
            rwa [show ((s : Int) + 1).toNat = s + 1 by omega] at t
          have key5 : ∀ m wx Ax nx cx lx Ay ny cy ly, m ≤ T → Sl wx wx.heap.size .i64 Ax nx cx lx → Num 256 lx (Wn T m k (s + 1)) → Sl wx wx.heap.size .i64 Ay ny cy ly → Num 256 ly den → Calls Try.prog 92 #[.slice Ax nx cx, .slice Ay ny cy] wx (DigV wx (Wn T m k (s + 1) * den)) := fun m wx Ax nx cx lx Ay ny cy ly hm sx tx sy ty => by
            have h1 := tx.len8_Wn (by omega) (by omega) (by omega) sx.len
            have h2 := ty.l256 fd sy.len
            have t := rmul_c _ _ _ _ _ _ _ _ wx _ sx sy (Nat.le_refl _) tx.dig ty.dig (by omega) (by omega)
            rwa [tx.val_, ty.val_] at t
          have key6 : ∀ m wx Ax nx cx lx, Below w6.heap.size w6 wx → Sl wx wx.heap.size .i64 Ax nx cx lx → Num 256 lx (Wn T m k (s + 1) * den) → Calls Try.prog 91 #[.slice Ax nx cx, .slice A6 n6 c6] wx fun e w' => e = .returned (.int .i64 (ordI (Wn T m k (s + 1) * den) (num * Cn T k))) ∧ Below wx.heap.size wx w' := fun m wx Ax nx cx lx hbx sx tx =>
            (rcompare_c _ _ _ _ _ _ _ _ _ _ wx _ sx ((s6.below hbx).mono hbx.size) tx N6).mono fun _ _ ⟨h, q, hq⟩ => ⟨h, hq ▸ below_drewN (Below.refl _ _) q⟩
          have keep : ∀ wx, Below w6.heap.size w6 wx → wx.cell? ⟨w.heap.size, 1, none⟩ = some (.slice f.A' f.n' f.c') ∧ Below w6.heap.size w6 wx := fun wx hbx =>
            ⟨cells_keep cd (Go.Below.step hW6 hbx (Nat.le_refl _)), hbx⟩
          have hbw6 := hbw2.trans (hW6.mono hbw2.size)
          have J2 := hide key2
          have J4 := hide key4
          have J5 := hide key5
          have J6 := hide key6
          have JB := hide keep
          have hb66 := Below.refl w6.heap.size w6
          clear key2 key4 key5 key6 keep s6 N6 K1 K2 K3 KB hW3 hW4 hW5 N4
          go_wp2
          go_loopw [12, 13] (fun lv hv wr => ∃ lo hi : Nat, lv = .int .i64 lo ∧ hv = .int .i64 hi ∧ lo ≤ hi ∧ hi ≤ T ∧ Hid (bsN P lo hi = bsN P s T) ∧ Below w6.heap.size w6 wr) (fun lv hv _ => (intOf hv).toNat - (intOf lv).toNat)
          case atStart => exact ⟨s, T, rfl, rfl, hs9, Nat.le_refl _, rfl, hb66⟩
          case round =>
            obtain ⟨lo, hi, rfl, rfl, hlh, hhT, HBS, hbr⟩ := hrel
            by_cases hlt : lo < hi
            · obtain ⟨m, hm, hm1, hm2⟩ : ∃ m : Nat, (lo + hi + 1) / 2 = m ∧ lo < m ∧ m ≤ hi := ⟨_, rfl, by omega, by omega⟩
              have HM := hide hm
              have hmi : ((lo : Int) + hi + 1) / 2 = (m : Int) := by omega
              have hmT : m ≤ T := by omega
              clear hm
              obtain ⟨z, hz, hzp⟩ : ∃ z : Int, ordI (Wn T m k (s + 1) * den) (num * Cn T k) = z ∧ P m = decide (z > 0) := ⟨_, rfl, by rw [← hP.out]; exact ordI_pos.symm⟩
              have key6 := J6.out m
              rw [hz] at key6
              have J7 := hide key6
              clear key6 hz
              have hr9 := hbr
              obtain ⟨cd9, _⟩ := JB.out _ hbr
              go_wp2
              rw [hmi]
              go_region_held3 (fun wx => wx.cell? ⟨w.heap.size, 1, none⟩ = some (.slice f.A' f.n' f.c') ∧ Below w6.heap.size w6 wx)
                (first | exact JB.out _ hr9.drew | exact JB.out _ hW1 | exact JB.out _ hW2 | exact JB.out _ hW3 | exact JB.out _ hW4 | fail)
                (first
                  | (go_at_call 76; refine (J4.out m _ hmT).mono ?_; rintro e wz ⟨A3, n3, c3, l3, rfl, s3, N3, hbz1⟩; have hW1 : Below w6.heap.size w6 wz := Go.Below.step (And.right (by assumption)) hbz1 (Nat.le_refl _))
                  | (go_at_call 83; refine (J2.out _ ?_).mono ?_; (exact And.right (by assumption)); rintro e wz ⟨A4, n4, c4, l4, rfl, s4, N4, hbz2, _⟩; have hW2 : Below w6.heap.size w6 wz := Go.Below.step (And.right (by assumption)) hbz2 (Nat.le_refl _))
                  | (go_at_call 92; refine (J5.out m _ _ _ _ l3 _ _ _ l4 hmT (by first | exact s3 | exact (s3.below hbz2).mono hbz2.size) N3 (by first | exact s4 | exact (s4.below hbz1).mono hbz1.size) N4).mono ?_; rintro e wz ⟨A5, n5, c5', l5, rfl, s5, N5, hbz3, _⟩; have hW3 : Below w6.heap.size w6 wz := Go.Below.step (And.right (by assumption)) hbz3 (Nat.le_refl _))
                  | (go_at_call 91; refine (J7.out _ _ _ _ l5 (And.right (by assumption)) s5 N5).mono ?_; rintro e wz ⟨rfl, hbz4⟩; have hW4 : Below w6.heap.size w6 wz := Go.Below.step (And.right (by assumption)) hbz4 (Nat.le_refl _))
                  | fail)
              all_goals
                clear hW1 hW2 hW3 hbz1 hbz2 hbz3 hbz4 s3 s4 s5 N3 N4 N5
                rw [← hmi]
                cases hPm : P m with
                | true =>
                  have hzz : z > 0 := by rw [hPm] at hzp; simpa using hzp
                  have HB2 : Hid (bsN P m hi = bsN P s T) := by
                    show _ = _
                    rw [← HBS.out, bsN_up hlt (by rw [HM.out]; exact hPm), HM.out]
                  go_wp2
                  go_roundw
                  case rel => exact ⟨m, hi, by go_num, rfl, hm2, hhT, HB2, hW4⟩
                  case measure => simp [intOf] <;> omega
                | false =>
                  have hzz : ¬ z > 0 := by rw [hPm] at hzp; simpa using hzp
                  have HB2 : Hid (bsN P lo (m - 1) = bsN P s T) := by
                    show _ = _
                    rw [← HBS.out, bsN_down hlt (by rw [HM.out]; exact hPm), HM.out]
                  go_wp2
                  go_roundw
                  case rel => exact ⟨lo, m - 1, rfl, by go_num, by omega, by omega, HB2, hW4⟩
                  case measure => simp [intOf] <;> omega
            · have hb9 := HBS.out
              rw [bsN_end hlt] at hb9
              go_wp2
              go_ret2
              refine ⟨_, _, rfl, .inr (.inr (.inr ⟨HE.out, ⟨hsan, by omega, by omega⟩, by rw [HNUM.out, HDEN.out]; exact hlt9, ?_, rfl⟩)), hbw6.trans (hbr.mono hbw6.size)⟩
              rw [HNUM.out, HDEN.out]
              show (lo : Int) = (bsN (possN T k s num den) s T : Nat)
              rw [hP.out, ← hb9]
    · have hc : T < 0 ∨ (0 ≤ T ∧ 512 < T) ∨ (0 ≤ T ∧ T ≤ 512 ∧ k < 0) ∨ (0 ≤ T ∧ T ≤ 512 ∧ 0 ≤ k ∧ T < k) ∨ (0 ≤ T ∧ T ≤ 512 ∧ 0 ≤ k ∧ k ≤ T ∧ s < 0) ∨ (0 ≤ T ∧ T ≤ 512 ∧ 0 ≤ k ∧ k ≤ T ∧ 0 ≤ s ∧ k < s) := by
        have hok' := hok
        rw [saneB_true] at hok'
        omega
      rcases hc with hc | hc | hc | hc | hc | hc
      all_goals
        go_wp2
        go_ret2
        exact ⟨_, _, rfl, .inr (.inl ⟨HE.out, hok, rfl, rfl⟩), hbw2⟩
  · have h0' : (er != 0) = true := by rw [bne_iff_ne]; exact h0
    go_wp2
    go_ret2
    exact ⟨_, _, rfl, .inl ⟨by rw [HE.out]; exact h0, rfl, HE.out.symm⟩, hbw2⟩
end Go.Proofs.Ytgilhkdmgbeieaa
