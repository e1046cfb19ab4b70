/- The walk of the law ExactFracs (its blocks printed by wip/genfracs.py). -/
import Derived.Test.YtgilhkdmgbeieaaTf
import Derived.Test.YtgilhkdmgbeieaaTd
import Derived.Test.YtgilhkdmgbeieaaRi
import Derived.Test.YtgilhkdmgbeieaaWo
namespace Go.Proofs.Ytgilhkdmgbeieaa
open Go.RowKit

theorem SText.uniq {f : FA} {s s' : ByteArray} {e e' : Int} (h : SText f s e) (k : SText f s' e') : s = s' ∧ e = e' := by
  obtain ⟨l, l', h1, h2⟩ := h
  obtain ⟨m, m', k1, k2⟩ := k
  obtain ⟨rfl, rfl, rfl⟩ := h1.uniq k1
  exact ⟨by rw [h2, k2], rfl⟩
theorem Blk.far2 {w : World} {g R : Nat} {t : TypeId} {cs : Array Value} (h : Blk w g t cs) (hp : g ≠ R) (a b : Value) : Blk ((w.setCell ⟨R, 0, none⟩ a).setCell ⟨R, 1, none⟩ b) g t cs :=
  (h.far (p := ⟨R, 0, none⟩) hp a).far (p := ⟨R, 1, none⟩) hp b

set_option maxRecDepth 100000 in
set_option maxHeartbeats 12800000 in
theorem fracs_w (w : World) (f : FA) (hf : f.Rd w w.heap.size) (g : FA) (hg : g.Rd w w.heap.size) :
    Calls Try.prog 12 #[.agg #[.slice f.A f.n f.c, .slice f.A' f.n' f.c'], .agg #[.slice g.A g.n g.c, .slice g.A' g.n' g.c']] w fun e w' => e = .returned (.bool true) ∧ Below w.heap.size w w' := by
  obtain ⟨w3, hw3, bF, bG, hw, hsz⟩ := two_allocs w 25 (.slice f.A f.n f.c) (.slice f.A' f.n' f.c') (.slice g.A g.n g.c) (.slice g.A' g.n' g.c')
  obtain ⟨F0, F1⟩ := bF.cells2
  obtain ⟨G0, G1⟩ := bG.cells2
  have hn1 := hf.num.n63
  have hn2 := hf.den.n63
  have hn3 := hg.num.n63
  have hn4 := hg.den.n63
  by_cases hlen : f.n ≤ 100 ∧ f.n' ≤ 100 ∧ g.n ≤ 100 ∧ g.n' ≤ 100
  · obtain ⟨ef, hef⟩ : ∃ ef, errV [f] = ef := ⟨_, rfl⟩
    have kx : ∀ wx, Below w3.heap.size w3 wx → Calls Try.prog 37 #[.agg #[.slice f.A f.n f.c, .slice f.A' f.n' f.c']] wx fun e w' => e = .returned (.int .i64 ef) ∧ Below wx.heap.size wx w' := fun wx hbx => by
      have t := xcheckfrac_c f wx _ ((hf.below (Go.Below.step hw hbx (Nat.le_refl _))).mono (Go.Below.step hw hbx (Nat.le_refl _)).size) (Nat.le_refl _)
      rwa [hef] at t
    have kr : ∀ wx, Below w3.heap.size w3 wx → Calls Try.prog 38 #[.agg #[.slice f.A f.n f.c, .slice f.A' f.n' f.c']] wx fun e w' => e = .returned (.int .i64 ef) ∧ Below wx.heap.size wx w' := fun wx hbx => by
      have t := rcheckfrac_c f wx _ ((hf.below (Go.Below.step hw hbx (Nat.le_refl _))).mono (Go.Below.step hw hbx (Nat.le_refl _)).size) (Nat.le_refl _)
      rwa [hef] at t
    have kb : ∀ wx, Below w3.heap.size w3 wx → wx.cell? ⟨w.heap.size, 0, none⟩ = some (.slice f.A f.n f.c) ∧ wx.cell? ⟨w.heap.size, 1, none⟩ = some (.slice f.A' f.n' f.c') := fun wx hbx => ⟨cells_keep F0 hbx, cells_keep F1 hbx⟩
    have KX := hide kx
    have KR := hide kr
    have KB := hide kb
    clear kx kr kb hef
    have hbB := Below.refl w3.heap.size w3
    go_enter Try.func12, Try.ntmps12
    go_wp2
    clear hw3 F0 F1 G0 G1
    go_region_held3 (fun wx => wx.cell? ⟨w.heap.size, 0, none⟩ = some (.slice f.A f.n f.c) ∧ wx.cell? ⟨w.heap.size, 1, none⟩ = some (.slice f.A' f.n' f.c'))
      (first | exact KB.out _ hbB.drew | exact KB.out _ hW1 | exact KB.out _ hW2 | fail)
      (first
        | (go_at_call 37; refine (KX.out _ (by first | exact hbB.drew | exact hW2)).mono ?_; rintro e wz ⟨rfl, hbz⟩; have hW1 : Below w3.heap.size w3 wz := Go.Below.step (by first | exact hbB.drew | exact hW2) hbz (Nat.le_refl _))
        | (go_at_call 38; refine (KR.out _ (by first | exact hbB.drew | exact hW1)).mono ?_; rintro e wz ⟨rfl, hbz⟩; have hW2 : Below w3.heap.size w3 wz := Go.Below.step (by first | exact hbB.drew | exact hW1) hbz (Nat.le_refl _))
        | fail)
    obtain ⟨w4, rfl⟩ : ∃ wo : World, wo = wz := ⟨_, rfl⟩
    have hb34 : Below w3.heap.size w3 w4 := by first | exact hW2 | exact hW1
    clear hW1 hW2 KB KX KR hbB
    replace hw := hw.trans (hb34.mono hw.size)
    replace bF := bF.keep hb34
    replace bG := bG.keep hb34
    clear hb34
    have hne : (ef != ef) = false := by simp
    obtain ⟨F0, F1⟩ := bF.cells2
    obtain ⟨G0, G1⟩ := bG.cells2
    go_wp2_with fail
    refine (reduce_c f _ _ ((hf.below hw).mono hw.size) (Nat.le_refl _)).mono ?_
    rintro e w5 ⟨A1, n1, c1, l1, A2, n2, c2, l2, e1, rfl, s1, s2, S1, hb⟩
    clear F0 F1 G0 G1 hne
    replace bF := bF.keep hb
    replace bG := bG.keep hb
    replace hw := hw.trans (hb.mono hw.size)
    clear hb
    have hG5 := bG.lt
    have b5 := Blk.new w5 25 #[.slice A1 n1 c1, .slice A2 n2 c2]
    have ha := (Below.refl w5.heap.size w5).alloc (Nat.le_refl _) (.cells #[.slice A1 n1 c1, .slice A2 n2 c2] 25)
    obtain ⟨F0, F1⟩ := (bF.keep ha).cells2
    go_wp2_with fail
    generalize w5.alloc (.cells #[.slice A1 n1 c1, .slice A2 n2 c2] 25) = w6 at *
    clear F0 F1
    replace bF := bF.keep ha
    replace bG := bG.keep ha
    replace s1 := (s1.below ha).mono ha.size
    replace s2 := (s2.below ha).mono ha.size
    have hw5 := hw.size
    replace hw := hw.trans (ha.mono hw.size)
    obtain ⟨P5, hP5⟩ : ∃ P, P = w5.heap.size := ⟨_, rfl⟩
    rw [← hP5] at b5 hG5 ⊢
    have hP5w : w.heap.size ≤ P5 := by rw [hP5]; exact hw5
    clear ha hP5
    refine (rreduce_c f _ ((hf.below hw).mono hw.size)).mono ?_
    rintro e w7 ⟨A3, n3, c3, l3, A4, n4, c4, l4, e2, rfl, s3, s4, S2, hb⟩
    obtain ⟨rfl, rfl, rfl⟩ := S1.uniq S2
    clear S1 S2
    replace bF := bF.keep hb
    replace bG := bG.keep hb
    replace b5 := b5.keep hb
    replace s1 := (s1.below hb).mono hb.size
    replace s2 := (s2.below hb).mono hb.size
    replace hw := hw.trans (hb.mono hw.size)
    clear hb
    have b7 := Blk.new w7 25 #[.slice A3 n3 c3, .slice A4 n4 c4]
    have ha := (Below.refl w7.heap.size w7).alloc (Nat.le_refl _) (.cells #[.slice A3 n3 c3, .slice A4 n4 c4] 25)
    have h57 : P5 < w7.heap.size := b5.lt
    have hG7 : w.heap.size + 1 < w7.heap.size := bG.lt
    obtain ⟨P0, P1⟩ := (b5.keep ha).cells2
    obtain ⟨Q0, Q1⟩ := b7.cells2
    go_wp2_with fail
    generalize w7.alloc (.cells #[.slice A3 n3 c3, .slice A4 n4 c4] 25) = w8 at *
    clear P0 P1 Q0 Q1
    replace bF := bF.keep ha
    replace bG := bG.keep ha
    replace b5 := b5.keep ha
    replace s1 := (s1.below ha).mono ha.size
    replace s2 := (s2.below ha).mono ha.size
    replace s3 := (s3.below ha).mono ha.size
    replace s4 := (s4.below ha).mono ha.size
    replace hw := hw.trans (ha.mono hw.size)
    obtain ⟨P7, hP7⟩ : ∃ P, P = w7.heap.size := ⟨_, rfl⟩
    rw [← hP7] at b7 h57 hG7 ⊢
    skip
    clear ha hP7
    refine (lfrac_c _ _ _ _ _ _ _ _ _ _ _ _ _ _ _ w8 s1 s2 s3 s4).mono ?_
    rintro e w9 ⟨rfl, hb⟩
    replace bF := bF.keep hb
    replace bG := bG.keep hb
    replace b5 := b5.keep hb
    replace b7 := b7.keep hb
    replace hw := hw.trans (hb.mono hw.size)
    clear hb s1 s2 s3 s4
    obtain ⟨F0, F1⟩ := bF.cells2
    go_wp2_with fail
    refine (fracText_c f w9 _ ((hf.below hw).mono hw.size) (Nat.le_refl _)).mono ?_
    rintro e w10 ⟨t1, u1, rfl, S1, hb⟩
    clear F0 F1
    replace bF := bF.keep hb
    replace bG := bG.keep hb
    replace b5 := b5.keep hb
    replace b7 := b7.keep hb
    replace hw := hw.trans (hb.mono hw.size)
    clear hb
    obtain ⟨F0, F1⟩ := bF.cells2
    go_wp2_with fail
    refine (rfractext_c f w10 ((hf.below hw).mono hw.size)).mono ?_
    rintro e w11 ⟨t2, u2, rfl, S2, hb⟩
    obtain ⟨rfl, rfl⟩ := S1.uniq S2
    clear F0 F1 S1 S2
    replace bF := bF.keep hb
    replace bG := bG.keep hb
    replace b5 := b5.keep hb
    replace b7 := b7.keep hb
    replace hw := hw.trans (hb.mono hw.size)
    clear hb
    obtain ⟨F0, F1⟩ := bF.cells2
    obtain ⟨G0, G1⟩ := bG.cells2
    have tx := xfcompare_c f g w11 _ ((hf.below hw).mono hw.size) ((hg.below hw).mono hw.size) (Nat.le_refl _)
    obtain ⟨cv, hcv⟩ : ∃ cv, fcmpV f g = cv := ⟨_, rfl⟩
    obtain ⟨ev, hev⟩ : ∃ ev, errV [f, g] = ev := ⟨_, rfl⟩
    rw [hcv, hev] at tx
    go_wp2_with fail
    refine tx.mono ?_
    rintro e w12 ⟨rfl, hb⟩
    clear F0 F1 G0 G1 tx
    replace bF := bF.keep hb
    replace bG := bG.keep hb
    replace b5 := b5.keep hb
    replace b7 := b7.keep hb
    replace hw := hw.trans (hb.mono hw.size)
    clear hb
    obtain ⟨F0, F1⟩ := bF.cells2
    obtain ⟨G0, G1⟩ := bG.cells2
    have tr := rfcompare_c f g w12 ((hf.below hw).mono hw.size) ((hg.below hw).mono hw.size)
    rw [hcv, hev] at tr
    clear hcv hev
    go_wp2_with fail
    refine tr.mono ?_
    rintro e w13 ⟨rfl, hb⟩
    clear F0 F1 G0 G1 tr
    replace bF := bF.keep hb
    replace bG := bG.keep hb
    replace b5 := b5.keep hb
    replace b7 := b7.keep hb
    replace hw := hw.trans (hb.mono hw.size)
    clear hb
    obtain ⟨F0, F1⟩ := bF.cells2
    obtain ⟨G0, G1⟩ := bG.cells2
    go_wp2_with fail
    refine (xfadd_c f g w13 ((hf.below hw).mono hw.size) ((hg.below hw).mono hw.size)).mono ?_
    rintro e w14 ⟨A1, n1, c1, l1, A2, n2, c2, l2, e1, rfl, s1, s2, S1, hb, fr1, fr2⟩
    clear F0 F1 G0 G1
    have z5 := b5.lt
    have z7 := b7.lt
    replace bF := bF.keep hb
    replace bG := bG.keep hb
    replace b5 := b5.keep hb
    replace b7 := b7.keep hb
    replace hw := hw.trans (hb.mono hw.size)
    clear hb
    obtain ⟨P0, P1⟩ := b5.cells2
    have Y0 := b5.frozen 0
    have Y1 := b5.frozen 1
    replace bF := bF.far2 (R := P5) (by omega) (.slice A1 n1 c1) (.slice A2 n2 c2)
    replace bG := bG.far2 (R := P5) (by omega) (.slice A1 n1 c1) (.slice A2 n2 c2)
    replace b7 := b7.far2 (R := P5) (by omega) (.slice A1 n1 c1) (.slice A2 n2 c2)
    replace b5 := b5.two (.slice A1 n1 c1) (.slice A2 n2 c2)
    replace hw := below_two hw (g := P5) hP5w (.slice A1 n1 c1) (.slice A2 n2 c2)
    replace s1 := s1.two (g := P5) (fun b o e _ => by have := fr1 b o e; omega) (.slice A1 n1 c1) (.slice A2 n2 c2)
    replace s2 := s2.two (g := P5) (fun b o e _ => by have := fr2 b o e; omega) (.slice A1 n1 c1) (.slice A2 n2 c2)
    have hz : ((w14.setCell ⟨P5, 0, none⟩ (.slice A1 n1 c1)).setCell ⟨P5, 1, none⟩ (.slice A2 n2 c2)).heap.size = w14.heap.size := by simp
    obtain ⟨F0, F1⟩ := bF.cells2
    obtain ⟨G0, G1⟩ := bG.cells2
    go_wp2_with fail
    generalize (w14.setCell ⟨P5, 0, none⟩ (.slice A1 n1 c1)).setCell ⟨P5, 1, none⟩ (.slice A2 n2 c2) = w15 at *
    rw [← hz] at s1 s2
    clear P0 P1 Y0 Y1 F0 F1 G0 G1 hz
    refine (rfadd_c f g w15 ((hf.below hw).mono hw.size) ((hg.below hw).mono hw.size)).mono ?_
    rintro e w16 ⟨A3, n3, c3, l3, A4, n4, c4, l4, e2, rfl, s3, s4, S2, hb, fr3, fr4⟩
    obtain ⟨rfl, rfl, rfl⟩ := (SFr.uniq (SRed.uniq2 _ _)) S1 S2
    clear S1 S2
    have y7 := b7.lt
    replace bF := bF.keep hb
    replace bG := bG.keep hb
    replace b5 := b5.keep hb
    replace b7 := b7.keep hb
    replace hw := hw.trans (hb.mono hw.size)
    replace s1 := (s1.below hb).mono hb.size
    replace s2 := (s2.below hb).mono hb.size
    clear hb
    obtain ⟨Q0, Q1⟩ := b7.cells2
    have Y0 := b7.frozen 0
    have Y1 := b7.frozen 1
    replace bF := bF.far2 (R := P7) (by omega) (.slice A3 n3 c3) (.slice A4 n4 c4)
    replace bG := bG.far2 (R := P7) (by omega) (.slice A3 n3 c3) (.slice A4 n4 c4)
    replace b5 := b5.far2 (R := P7) (by omega) (.slice A3 n3 c3) (.slice A4 n4 c4)
    replace b7 := b7.two (.slice A3 n3 c3) (.slice A4 n4 c4)
    replace hw := below_two hw (g := P7) (by omega) (.slice A3 n3 c3) (.slice A4 n4 c4)
    replace s1 := s1.two (g := P7) (fun b o e _ => by have := fr1 b o e; omega) (.slice A3 n3 c3) (.slice A4 n4 c4)
    replace s2 := s2.two (g := P7) (fun b o e _ => by have := fr2 b o e; omega) (.slice A3 n3 c3) (.slice A4 n4 c4)
    replace s3 := s3.two (g := P7) (fun b o e _ => by have := fr3 b o e; omega) (.slice A3 n3 c3) (.slice A4 n4 c4)
    replace s4 := s4.two (g := P7) (fun b o e _ => by have := fr4 b o e; omega) (.slice A3 n3 c3) (.slice A4 n4 c4)
    have hz : ((w16.setCell ⟨P7, 0, none⟩ (.slice A3 n3 c3)).setCell ⟨P7, 1, none⟩ (.slice A4 n4 c4)).heap.size = w16.heap.size := by simp
    obtain ⟨P0, P1⟩ := b5.cells2
    obtain ⟨X0, X1⟩ := b7.cells2
    go_wp2_with fail
    generalize (w16.setCell ⟨P7, 0, none⟩ (.slice A3 n3 c3)).setCell ⟨P7, 1, none⟩ (.slice A4 n4 c4) = w17 at *
    rw [← hz] at s1 s2 s3 s4
    clear P0 P1 Y0 Y1 Q0 Q1 X0 X1 hz fr1 fr2 fr3 fr4 z5 z7 y7
    refine (lfrac_c _ _ _ _ _ _ _ _ _ _ _ _ _ _ _ w17 s1 s2 s3 s4).mono ?_
    rintro e w18 ⟨rfl, hb⟩
    replace bF := bF.keep hb
    replace bG := bG.keep hb
    replace b5 := b5.keep hb
    replace b7 := b7.keep hb
    replace hw := hw.trans (hb.mono hw.size)
    clear hb s1 s2 s3 s4
    obtain ⟨F0, F1⟩ := bF.cells2
    obtain ⟨G0, G1⟩ := bG.cells2
    go_wp2_with fail
    refine (xfsub_c f g w18 ((hf.below hw).mono hw.size) ((hg.below hw).mono hw.size)).mono ?_
    rintro e w19 ⟨A1, n1, c1, l1, A2, n2, c2, l2, e1, rfl, s1, s2, S1, hb, fr1, fr2⟩
    clear F0 F1 G0 G1
    have z5 := b5.lt
    have z7 := b7.lt
    replace bF := bF.keep hb
    replace bG := bG.keep hb
    replace b5 := b5.keep hb
    replace b7 := b7.keep hb
    replace hw := hw.trans (hb.mono hw.size)
    clear hb
    obtain ⟨P0, P1⟩ := b5.cells2
    have Y0 := b5.frozen 0
    have Y1 := b5.frozen 1
    replace bF := bF.far2 (R := P5) (by omega) (.slice A1 n1 c1) (.slice A2 n2 c2)
    replace bG := bG.far2 (R := P5) (by omega) (.slice A1 n1 c1) (.slice A2 n2 c2)
    replace b7 := b7.far2 (R := P5) (by omega) (.slice A1 n1 c1) (.slice A2 n2 c2)
    replace b5 := b5.two (.slice A1 n1 c1) (.slice A2 n2 c2)
    replace hw := below_two hw (g := P5) hP5w (.slice A1 n1 c1) (.slice A2 n2 c2)
    replace s1 := s1.two (g := P5) (fun b o e _ => by have := fr1 b o e; omega) (.slice A1 n1 c1) (.slice A2 n2 c2)
    replace s2 := s2.two (g := P5) (fun b o e _ => by have := fr2 b o e; omega) (.slice A1 n1 c1) (.slice A2 n2 c2)
    have hz : ((w19.setCell ⟨P5, 0, none⟩ (.slice A1 n1 c1)).setCell ⟨P5, 1, none⟩ (.slice A2 n2 c2)).heap.size = w19.heap.size := by simp
    obtain ⟨F0, F1⟩ := bF.cells2
    obtain ⟨G0, G1⟩ := bG.cells2
    go_wp2_with fail
    generalize (w19.setCell ⟨P5, 0, none⟩ (.slice A1 n1 c1)).setCell ⟨P5, 1, none⟩ (.slice A2 n2 c2) = w20 at *
    rw [← hz] at s1 s2
    clear P0 P1 Y0 Y1 F0 F1 G0 G1 hz
    refine (rfsub_c f g w20 ((hf.below hw).mono hw.size) ((hg.below hw).mono hw.size)).mono ?_
    rintro e w21 ⟨A3, n3, c3, l3, A4, n4, c4, l4, e2, rfl, s3, s4, S2, hb, fr3, fr4⟩
    obtain ⟨rfl, rfl, rfl⟩ := (SFr.uniq (SDif.uniq _ _ _)) S1 S2
    clear S1 S2
    have y7 := b7.lt
    replace bF := bF.keep hb
    replace bG := bG.keep hb
    replace b5 := b5.keep hb
    replace b7 := b7.keep hb
    replace hw := hw.trans (hb.mono hw.size)
    replace s1 := (s1.below hb).mono hb.size
    replace s2 := (s2.below hb).mono hb.size
    clear hb
    obtain ⟨Q0, Q1⟩ := b7.cells2
    have Y0 := b7.frozen 0
    have Y1 := b7.frozen 1
    replace bF := bF.far2 (R := P7) (by omega) (.slice A3 n3 c3) (.slice A4 n4 c4)
    replace bG := bG.far2 (R := P7) (by omega) (.slice A3 n3 c3) (.slice A4 n4 c4)
    replace b5 := b5.far2 (R := P7) (by omega) (.slice A3 n3 c3) (.slice A4 n4 c4)
    replace b7 := b7.two (.slice A3 n3 c3) (.slice A4 n4 c4)
    replace hw := below_two hw (g := P7) (by omega) (.slice A3 n3 c3) (.slice A4 n4 c4)
    replace s1 := s1.two (g := P7) (fun b o e _ => by have := fr1 b o e; omega) (.slice A3 n3 c3) (.slice A4 n4 c4)
    replace s2 := s2.two (g := P7) (fun b o e _ => by have := fr2 b o e; omega) (.slice A3 n3 c3) (.slice A4 n4 c4)
    replace s3 := s3.two (g := P7) (fun b o e _ => by have := fr3 b o e; omega) (.slice A3 n3 c3) (.slice A4 n4 c4)
    replace s4 := s4.two (g := P7) (fun b o e _ => by have := fr4 b o e; omega) (.slice A3 n3 c3) (.slice A4 n4 c4)
    have hz : ((w21.setCell ⟨P7, 0, none⟩ (.slice A3 n3 c3)).setCell ⟨P7, 1, none⟩ (.slice A4 n4 c4)).heap.size = w21.heap.size := by simp
    obtain ⟨P0, P1⟩ := b5.cells2
    obtain ⟨X0, X1⟩ := b7.cells2
    go_wp2_with fail
    generalize (w21.setCell ⟨P7, 0, none⟩ (.slice A3 n3 c3)).setCell ⟨P7, 1, none⟩ (.slice A4 n4 c4) = w22 at *
    rw [← hz] at s1 s2 s3 s4
    clear P0 P1 Y0 Y1 Q0 Q1 X0 X1 hz fr1 fr2 fr3 fr4 z5 z7 y7
    refine (lfrac_c _ _ _ _ _ _ _ _ _ _ _ _ _ _ _ w22 s1 s2 s3 s4).mono ?_
    rintro e w23 ⟨rfl, hb⟩
    replace bF := bF.keep hb
    replace bG := bG.keep hb
    replace b5 := b5.keep hb
    replace b7 := b7.keep hb
    replace hw := hw.trans (hb.mono hw.size)
    clear hb s1 s2 s3 s4
    obtain ⟨F0, F1⟩ := bF.cells2
    obtain ⟨G0, G1⟩ := bG.cells2
    go_wp2_with fail
    refine (xfmul_c f g w23 ((hf.below hw).mono hw.size) ((hg.below hw).mono hw.size)).mono ?_
    rintro e w24 ⟨A1, n1, c1, l1, A2, n2, c2, l2, e1, rfl, s1, s2, S1, hb, fr1, fr2⟩
    clear F0 F1 G0 G1
    have z5 := b5.lt
    have z7 := b7.lt
    replace bF := bF.keep hb
    replace bG := bG.keep hb
    replace b5 := b5.keep hb
    replace b7 := b7.keep hb
    replace hw := hw.trans (hb.mono hw.size)
    clear hb
    obtain ⟨P0, P1⟩ := b5.cells2
    have Y0 := b5.frozen 0
    have Y1 := b5.frozen 1
    replace bF := bF.far2 (R := P5) (by omega) (.slice A1 n1 c1) (.slice A2 n2 c2)
    replace bG := bG.far2 (R := P5) (by omega) (.slice A1 n1 c1) (.slice A2 n2 c2)
    replace b7 := b7.far2 (R := P5) (by omega) (.slice A1 n1 c1) (.slice A2 n2 c2)
    replace b5 := b5.two (.slice A1 n1 c1) (.slice A2 n2 c2)
    replace hw := below_two hw (g := P5) hP5w (.slice A1 n1 c1) (.slice A2 n2 c2)
    replace s1 := s1.two (g := P5) (fun b o e _ => by have := fr1 b o e; omega) (.slice A1 n1 c1) (.slice A2 n2 c2)
    replace s2 := s2.two (g := P5) (fun b o e _ => by have := fr2 b o e; omega) (.slice A1 n1 c1) (.slice A2 n2 c2)
    have hz : ((w24.setCell ⟨P5, 0, none⟩ (.slice A1 n1 c1)).setCell ⟨P5, 1, none⟩ (.slice A2 n2 c2)).heap.size = w24.heap.size := by simp
    obtain ⟨F0, F1⟩ := bF.cells2
    obtain ⟨G0, G1⟩ := bG.cells2
    go_wp2_with fail
    generalize (w24.setCell ⟨P5, 0, none⟩ (.slice A1 n1 c1)).setCell ⟨P5, 1, none⟩ (.slice A2 n2 c2) = w25 at *
    rw [← hz] at s1 s2
    clear P0 P1 Y0 Y1 F0 F1 G0 G1 hz
    refine (rfmul_c f g w25 ((hf.below hw).mono hw.size) ((hg.below hw).mono hw.size)).mono ?_
    rintro e w26 ⟨A3, n3, c3, l3, A4, n4, c4, l4, e2, rfl, s3, s4, S2, hb, fr3, fr4⟩
    obtain ⟨rfl, rfl, rfl⟩ := (SFr.uniq (SRed.uniq2 _ _)) S1 S2
    clear S1 S2
    have y7 := b7.lt
    replace bF := bF.keep hb
    replace bG := bG.keep hb
    replace b5 := b5.keep hb
    replace b7 := b7.keep hb
    replace hw := hw.trans (hb.mono hw.size)
    replace s1 := (s1.below hb).mono hb.size
    replace s2 := (s2.below hb).mono hb.size
    clear hb
    obtain ⟨Q0, Q1⟩ := b7.cells2
    have Y0 := b7.frozen 0
    have Y1 := b7.frozen 1
    replace bF := bF.far2 (R := P7) (by omega) (.slice A3 n3 c3) (.slice A4 n4 c4)
    replace bG := bG.far2 (R := P7) (by omega) (.slice A3 n3 c3) (.slice A4 n4 c4)
    replace b5 := b5.far2 (R := P7) (by omega) (.slice A3 n3 c3) (.slice A4 n4 c4)
    replace b7 := b7.two (.slice A3 n3 c3) (.slice A4 n4 c4)
    replace hw := below_two hw (g := P7) (by omega) (.slice A3 n3 c3) (.slice A4 n4 c4)
    replace s1 := s1.two (g := P7) (fun b o e _ => by have := fr1 b o e; omega) (.slice A3 n3 c3) (.slice A4 n4 c4)
    replace s2 := s2.two (g := P7) (fun b o e _ => by have := fr2 b o e; omega) (.slice A3 n3 c3) (.slice A4 n4 c4)
    replace s3 := s3.two (g := P7) (fun b o e _ => by have := fr3 b o e; omega) (.slice A3 n3 c3) (.slice A4 n4 c4)
    replace s4 := s4.two (g := P7) (fun b o e _ => by have := fr4 b o e; omega) (.slice A3 n3 c3) (.slice A4 n4 c4)
    have hz : ((w26.setCell ⟨P7, 0, none⟩ (.slice A3 n3 c3)).setCell ⟨P7, 1, none⟩ (.slice A4 n4 c4)).heap.size = w26.heap.size := by simp
    obtain ⟨P0, P1⟩ := b5.cells2
    obtain ⟨X0, X1⟩ := b7.cells2
    go_wp2_with fail
    generalize (w26.setCell ⟨P7, 0, none⟩ (.slice A3 n3 c3)).setCell ⟨P7, 1, none⟩ (.slice A4 n4 c4) = w27 at *
    rw [← hz] at s1 s2 s3 s4
    clear P0 P1 Y0 Y1 Q0 Q1 X0 X1 hz fr1 fr2 fr3 fr4 z5 z7 y7
    refine (lfrac_c _ _ _ _ _ _ _ _ _ _ _ _ _ _ _ w27 s1 s2 s3 s4).mono ?_
    rintro e w28 ⟨rfl, hb⟩
    replace bF := bF.keep hb
    replace bG := bG.keep hb
    replace b5 := b5.keep hb
    replace b7 := b7.keep hb
    replace hw := hw.trans (hb.mono hw.size)
    clear hb s1 s2 s3 s4
    go_wp2_with fail
    refine (works_c _).mono ?_
    rintro e wy ⟨rfl, hb⟩
    go_wp2
    go_ret
    exact ⟨rfl, hw.trans (hb.mono hw.size)⟩
  · have hc : 100 < f.n ∨ (f.n ≤ 100 ∧ 100 < f.n') ∨ (f.n ≤ 100 ∧ f.n' ≤ 100 ∧ 100 < g.n) ∨ (f.n ≤ 100 ∧ f.n' ≤ 100 ∧ g.n ≤ 100 ∧ 100 < g.n') := by omega
    rcases hc with hc | hc | hc | hc
    all_goals
      go_enter Try.func12, Try.ntmps12
      go_wp2_with fail
      refine (works_c _).mono ?_
      rintro e w4 ⟨rfl, hb4⟩
      go_wp2
      go_ret
      exact ⟨rfl, hw.trans (hb4.mono hw.size)⟩
end Go.Proofs.Ytgilhkdmgbeieaa
