/- Contracts of the reference's FracAdd, FracSub, FracMul (printed by wip/genref.py). -/
import Derived.Test.YtgilhkdmgbeieaaTd
import Derived.Test.YtgilhkdmgbeieaaTb
namespace Go.Proofs.Ytgilhkdmgbeieaa
open Go.RowKit

theorem Num.nE {l : List Nat} {N n k m : Nat} (h : Num 256 l N) (hN : N < 4294967296 ^ k) (hm : 4 * k = m) (hl : l.length = n) : n ≤ m := by
  rw [← hl]
  refine (h.length_le (by omega) m).2 ?_
  rw [show (4294967296 : Nat) = 256 ^ 4 from rfl, ← Nat.pow_mul, hm] at hN
  exact hN
theorem Num.n516 {l : List Nat} {N n : Nat} (h : Num 256 l N) (hN : N < 4294967296 ^ 129) (hl : l.length = n) : n ≤ 516 := h.nE hN rfl hl

set_option maxRecDepth 100000 in
set_option maxHeartbeats 6400000 in
theorem rfmul_c (f g : FA) (w : World) (hf : f.Rd w w.heap.size) (hg : g.Rd w w.heap.size) :
    Calls Try.prog 49 #[.agg #[.slice f.A f.n f.c, .slice f.A' f.n' f.c'], .agg #[.slice g.A g.n g.c, .slice g.A' g.n' g.c']] w (FracF w (SFr f g (SRed (val 4294967296 f.l * val 4294967296 g.l) (val 4294967296 f.l' * val 4294967296 g.l')))) := by
  obtain ⟨w3, hw3, bF, bG, bR, hb, hsz⟩ := three_allocs w 25 (.slice f.A f.n f.c) (.slice f.A' f.n' f.c') (.slice g.A g.n g.c) (.slice g.A' g.n' g.c')
  obtain ⟨F0, F1⟩ := bF.cells2
  obtain ⟨G0, G1⟩ := bG.cells2
  go_enter Try.func49, Try.ntmps49
  go_wp2_with fail
  clear hw3 F0 F1 G0 G1
  refine (rpair_c f g w3 ((hf.below hb).mono hb.size) ((hg.below hb).mono hb.size)).mono ?_
  rintro e w5 ⟨rfl, hb5⟩
  replace bR := bR.keep hb5
  obtain ⟨F0, F1⟩ := (bF.keep hb5).cells2
  obtain ⟨G0, G1⟩ := (bG.keep hb5).cells2
  obtain ⟨R0, R1⟩ := bR.cells2
  have Z0 := bR.frozen 0
  have Z1 := bR.frozen 1
  have hw5 := hb.trans (hb5.mono hb.size)
  have hf5 := (hf.below hw5).mono hw5.size
  have hg5 := (hg.below hw5).mono hw5.size
  have hR5 := bR.lt
  clear bF bG hb hb5 hsz hf hg
  obtain ⟨er, her⟩ : ∃ er, errV [f, g] = er := ⟨_, rfl⟩
  have HE := hide her
  rw [her]
  clear her
  by_cases h0 : er = 0
  · subst h0
    obtain ⟨p1, p2, p3, p4, p5, p6⟩ := errV_two HE.out
    have ffn := hf5.fn p1
    have ffd := hf5.fd p2
    have fgn := hg5.fn p4
    have fgd := hg5.fd p5
    obtain ⟨a, ha⟩ : ∃ a, val 4294967296 f.l = a := ⟨_, rfl⟩
    obtain ⟨b, hbb⟩ : ∃ b, val 4294967296 f.l' = b := ⟨_, rfl⟩
    obtain ⟨c, hc⟩ : ∃ c, val 4294967296 g.l = c := ⟨_, rfl⟩
    obtain ⟨d, hd⟩ : ∃ d, val 4294967296 g.l' = d := ⟨_, rfl⟩
    rw [ha] at ffn
    rw [hbb] at ffd p3
    rw [hc] at fgn
    rw [hd] at fgd p6
    have k1 : ∀ wx, Below w5.heap.size w5 wx → Calls Try.prog 83 #[.slice f.A f.n f.c] wx (DigV wx a) := fun wx hbx => by
      have t := rdigits_c _ _ _ _ wx _ ((hf5.num.below hbx).mono hbx.size) (Nat.le_refl _) hf5.dn (by omega)
      rwa [ha] at t
    have k2 : ∀ wx, Below w5.heap.size w5 wx → Calls Try.prog 83 #[.slice f.A' f.n' f.c'] wx (DigV wx b) := fun wx hbx => by
      have t := rdigits_c _ _ _ _ wx _ ((hf5.den.below hbx).mono hbx.size) (Nat.le_refl _) hf5.dd (by omega)
      rwa [hbb] at t
    have k3 : ∀ wx, Below w5.heap.size w5 wx → Calls Try.prog 83 #[.slice g.A g.n g.c] wx (DigV wx c) := fun wx hbx => by
      have t := rdigits_c _ _ _ _ wx _ ((hg5.num.below hbx).mono hbx.size) (Nat.le_refl _) hg5.dn (by omega)
      rwa [hc] at t
    have k4 : ∀ wx, Below w5.heap.size w5 wx → Calls Try.prog 83 #[.slice g.A' g.n' g.c'] wx (DigV wx d) := fun wx hbx => by
      have t := rdigits_c _ _ _ _ wx _ ((hg5.den.below hbx).mono hbx.size) (Nat.le_refl _) hg5.dd (by omega)
      rwa [hd] at t
    have km : ∀ x y wx Ax nx cx lx Ay ny cy ly, Fits x → Fits y → Sl wx wx.heap.size .i64 Ax nx cx lx → Sl wx wx.heap.size .i64 Ay ny cy ly → Num 256 lx x → Num 256 ly y → Calls Try.prog 92 #[.slice Ax nx cx, .slice Ay ny cy] wx (DigV wx (x * y)) := fun x y wx Ax nx cx lx Ay ny cy ly fx fy sx sy Nx Ny => by
      have h1 := Nx.l256 fx sx.len
      have h2 := Ny.l256 fy sy.len
      have t := rmul_c _ _ _ _ _ _ _ _ wx _ sx sy (Nat.le_refl _) Nx.dig Ny.dig (by omega) (by omega)
      rwa [Nx.val_, Ny.val_] at t
    have kr : ∀ x y wx Ax nx cx lx Ay ny cy ly, x < 4294967296 ^ 129 → y < 4294967296 ^ 129 → 0 < y → Sl wx wx.heap.size .i64 Ax nx cx lx → Sl wx wx.heap.size .i64 Ay ny cy ly → Num 256 lx x → Num 256 ly y → Calls Try.prog 75 #[.slice Ax nx cx, .slice Ay ny cy] wx (FracF wx (SRed x y)) := fun x y wx Ax nx cx lx Ay ny cy ly fx fy hy sx sy Nx Ny => by
      have h1 := Nx.n516 fx sx.len
      have h2 := Ny.n516 fy sy.len
      exact rreduced_c _ _ _ _ _ _ _ _ _ _ wx _ sx sy (Nat.le_refl _) Nx Ny hy (by omega) (by omega)
    have hbd : b * d < 4294967296 ^ 129 := lt128 (lt_prod ffd fgd)
    have had : a * d < 4294967296 ^ 128 := lt_prod ffn fgd
    have hcb : c * b < 4294967296 ^ 128 := lt_prod fgn ffd
    have hac : a * c < 4294967296 ^ 129 := lt128 (lt_prod ffn fgn)
    have hbd0 : 0 < b * d := Nat.mul_pos p3 p6
    have HA := hide ha
    have HBB := hide hbb
    have HCC := hide hc
    have HDD := hide hd
    have HBD := hide hbd
    have HAD := hide had
    have HCB := hide hcb
    have HAC := hide hac
    have KM := hide km
    have KR := hide kr
    have K1 := hide k1
    have K2 := hide k2
    have K3 := hide k3
    have K4 := hide k4
    clear k1 k2 k3 k4 km kr ha hbb hc hd hbd had hcb hac hf5 hg5
    have Dfn := K1
    have Dfd := K2
    have Dgn := K3
    have Dgd := K4
    have keep : ∀ wx, Below w5.heap.size w5 wx → wx.cell? ⟨w.heap.size, 0, none⟩ = some (.slice f.A f.n f.c) ∧ wx.cell? ⟨w.heap.size + 1, 0, none⟩ = some (.slice g.A g.n g.c) ∧ wx.cell? ⟨w.heap.size, 1, none⟩ = some (.slice f.A' f.n' f.c') ∧ wx.cell? ⟨w.heap.size + 1, 1, none⟩ = some (.slice g.A' g.n' g.c') := fun wx hbx =>
      ⟨cells_keep F0 hbx, cells_keep G0 hbx, cells_keep F1 hbx, cells_keep G1 hbx⟩
    have KB := hide keep
    have keepS : ∀ (wx : World) (u v : Value), Below w5.heap.size w5 wx → ((wx.setCell ⟨w.heap.size + 1 + 1, 0, none⟩ u).setCell ⟨w.heap.size + 1 + 1, 1, none⟩ v).cell? ⟨w.heap.size, 0, none⟩ = some (.slice f.A f.n f.c) ∧ ((wx.setCell ⟨w.heap.size + 1 + 1, 0, none⟩ u).setCell ⟨w.heap.size + 1 + 1, 1, none⟩ v).cell? ⟨w.heap.size + 1, 0, none⟩ = some (.slice g.A g.n g.c) ∧ ((wx.setCell ⟨w.heap.size + 1 + 1, 0, none⟩ u).setCell ⟨w.heap.size + 1 + 1, 1, none⟩ v).cell? ⟨w.heap.size, 1, none⟩ = some (.slice f.A' f.n' f.c') ∧ ((wx.setCell ⟨w.heap.size + 1 + 1, 0, none⟩ u).setCell ⟨w.heap.size + 1 + 1, 1, none⟩ v).cell? ⟨w.heap.size + 1, 1, none⟩ = some (.slice g.A' g.n' g.c') := fun wx u v hbx =>
      ⟨far2 (cells_keep F0 hbx) (by simp <;> omega) u v, far2 (cells_keep G0 hbx) (by simp <;> omega) u v, far2 (cells_keep F1 hbx) (by simp <;> omega) u v, far2 (cells_keep G1 hbx) (by simp <;> omega) u v⟩
    have KS := hide keepS
    clear keepS
    clear keep
    have hbB := Below.refl w5.heap.size w5
    go_wp2
    go_region_held3 (fun wx => wx.cell? ⟨w.heap.size, 0, none⟩ = some (.slice f.A f.n f.c) ∧ wx.cell? ⟨w.heap.size + 1, 0, none⟩ = some (.slice g.A g.n g.c) ∧ wx.cell? ⟨w.heap.size, 1, none⟩ = some (.slice f.A' f.n' f.c') ∧ wx.cell? ⟨w.heap.size + 1, 1, none⟩ = some (.slice g.A' g.n' g.c'))
      (first | exact KB.out _ hbB.drew | exact KB.out _ hW1 | exact KB.out _ hW2 | exact KB.out _ hW3 | exact KB.out _ hW4 | exact KB.out _ hW5 | exact KB.out _ hW6 | exact KB.out _ hW7 | exact KS.out _ _ _ hW7 | fail)
      (first
        | (go_at_call_of 83 (Value.slice f.A f.n f.c); refine (Dfn.out _ (by first | exact hbB.drew | exact hW1 | exact hW2 | exact hW3 | exact hW4 | exact hW5 | exact hW6 | exact hW7)).mono ?_; rintro e wz ⟨A1, n1, c1, l1, rfl, s1, N1, hbz, _⟩; have hW1 : Below w5.heap.size w5 wz := Go.Below.step (by first | exact hbB.drew | exact hW1 | exact hW2 | exact hW3 | exact hW4 | exact hW5 | exact hW6 | exact hW7) hbz (Nat.le_refl _); clear hbz)
        | (go_at_call_of 83 (Value.slice g.A g.n g.c); refine (Dgn.out _ (by first | exact hbB.drew | exact hW1 | exact hW2 | exact hW3 | exact hW4 | exact hW5 | exact hW6 | exact hW7)).mono ?_; rintro e wz ⟨A2, n2, c2, l2, rfl, s2, N2, hbz, _⟩; have hW2 : Below w5.heap.size w5 wz := Go.Below.step (by first | exact hbB.drew | exact hW1 | exact hW2 | exact hW3 | exact hW4 | exact hW5 | exact hW6 | exact hW7) hbz (Nat.le_refl _); (try replace s1 := (s1.below hbz).mono hbz.size); clear hbz)
        | (go_at_call_of 92 (Value.slice A1 n1 c1); refine (KM.out a c _ _ _ _ l1 _ _ _ l2 ffn fgn s1 s2 N1 N2).mono ?_; rintro e wz ⟨A3, n3, c3, l3, rfl, s3, N3, hbz, _⟩; have hW3 : Below w5.heap.size w5 wz := Go.Below.step (by first | exact hbB.drew | exact hW1 | exact hW2 | exact hW3 | exact hW4 | exact hW5 | exact hW6 | exact hW7) hbz (Nat.le_refl _); clear hbz)
        | (go_at_call_of 83 (Value.slice f.A' f.n' f.c'); refine (Dfd.out _ (by first | exact hbB.drew | exact hW1 | exact hW2 | exact hW3 | exact hW4 | exact hW5 | exact hW6 | exact hW7)).mono ?_; rintro e wz ⟨A4, n4, c4, l4, rfl, s4, N4, hbz, _⟩; have hW4 : Below w5.heap.size w5 wz := Go.Below.step (by first | exact hbB.drew | exact hW1 | exact hW2 | exact hW3 | exact hW4 | exact hW5 | exact hW6 | exact hW7) hbz (Nat.le_refl _); (try replace s3 := (s3.below hbz).mono hbz.size); clear hbz)
        | (go_at_call_of 83 (Value.slice g.A' g.n' g.c'); refine (Dgd.out _ (by first | exact hbB.drew | exact hW1 | exact hW2 | exact hW3 | exact hW4 | exact hW5 | exact hW6 | exact hW7)).mono ?_; rintro e wz ⟨A5, n5, c5, l5, rfl, s5, N5, hbz, _⟩; have hW5 : Below w5.heap.size w5 wz := Go.Below.step (by first | exact hbB.drew | exact hW1 | exact hW2 | exact hW3 | exact hW4 | exact hW5 | exact hW6 | exact hW7) hbz (Nat.le_refl _); (try replace s3 := (s3.below hbz).mono hbz.size); (try replace s4 := (s4.below hbz).mono hbz.size); clear hbz)
        | (go_at_call_of 92 (Value.slice A4 n4 c4); refine (KM.out b d _ _ _ _ l4 _ _ _ l5 ffd fgd s4 s5 N4 N5).mono ?_; rintro e wz ⟨A6, n6, c6, l6, rfl, s6, N6, hbz, _⟩; have hW6 : Below w5.heap.size w5 wz := Go.Below.step (by first | exact hbB.drew | exact hW1 | exact hW2 | exact hW3 | exact hW4 | exact hW5 | exact hW6 | exact hW7) hbz (Nat.le_refl _); (try replace s3 := (s3.below hbz).mono hbz.size); clear hbz)
        | (go_at_call 75; refine (KR.out (a * c) (b * d) _ _ _ _ l3 _ _ _ l6 HAC.out HBD.out hbd0 s3 s6 N3 N6).mono ?_; rintro e wz ⟨A8, n8, c8, l8, A9, n9, c9, l9, err, rfl, s8, s9, S8, hbz, fr8, fr9⟩; have hW7 : Below w5.heap.size w5 wz := Go.Below.step (by first | exact hbB.drew | exact hW1 | exact hW2 | exact hW3 | exact hW4 | exact hW5 | exact hW6 | exact hW7) hbz (Nat.le_refl _); have Q0 := cells_keep R0 hW7; have Q1 := cells_keep R1 hW7; have Y0 := frozen_keep R0 Z0 hW7; have Y1 := frozen_keep R1 Z1 hW7; clear hbz)
        | fail)
    all_goals
      have hpz := hW6.size
      have hRs := bR.lt
      have hws := hw5.size
      have hR8 := (bR.keep hW7).two (.slice A8 n8 c8) (.slice A9 n9 c9)
      have hb8 := below_two (hw5.trans (hW7.mono hw5.size)) (g := w.heap.size + 1 + 1) (by omega) (.slice A8 n8 c8) (.slice A9 n9 c9)
      have p5' := s8.two (g := w.heap.size + 1 + 1) (fun b o e _ => by have := fr8 b o e; omega) (.slice A8 n8 c8) (.slice A9 n9 c9)
      have p6' := s9.two (g := w.heap.size + 1 + 1) (fun b o e _ => by have := fr9 b o e; omega) (.slice A8 n8 c8) (.slice A9 n9 c9)
      have hz8 : ((wz.setCell ⟨w.heap.size + 1 + 1, 0, none⟩ (.slice A8 n8 c8)).setCell ⟨w.heap.size + 1 + 1, 1, none⟩ (.slice A9 n9 c9)).heap.size = wz.heap.size := by simp
      clear Q0 Q1 Y0 Y1
      go_wp2
      generalize (wz.setCell ⟨w.heap.size + 1 + 1, 0, none⟩ (.slice A8 n8 c8)).setCell ⟨w.heap.size + 1 + 1, 1, none⟩ (.slice A9 n9 c9) = w8 at *
      obtain ⟨q0, q1⟩ := hR8.cells2
      rw [← hz8] at p5' p6'
      refine bodyPost_ret (v := .tuple #[.agg #[.slice A8 n8 c8, .slice A9 n9 c9], .int .i64 err]) (by simp [results, Try.results49, go_sem, q0, q1]) rfl ?_
      exact ⟨_, _, _, _, _, _, _, _, _, rfl, p5', p6', .inl ⟨HE.out, by rw [HA.out, HBB.out, HCC.out, HDD.out]; exact S8⟩, hb8, fun b o e => (by have := fr8 b o e; omega), fun b o e => (by have := fr9 b o e; omega)⟩
  · have h0' : (er != 0) = true := by rw [bne_iff_ne]; exact h0
    have hR8 := bR.two (.slice none 0 0) (.slice none 0 0)
    have hb8 := below_two hw5 (g := w.heap.size + 1 + 1) (by omega) (.slice none 0 0) (.slice none 0 0)
    go_wp2
    generalize (w5.setCell ⟨w.heap.size + 1 + 1, 0, none⟩ (.slice none 0 0)).setCell ⟨w.heap.size + 1 + 1, 1, none⟩ (.slice none 0 0) = w8 at *
    obtain ⟨q0, q1⟩ := hR8.cells2
    refine bodyPost_ret (v := .tuple #[.agg #[.slice none 0 0, .slice none 0 0], .int .i64 er]) (by simp [results, Try.results49, go_sem, q0, q1]) rfl ?_
    exact ⟨_, _, _, _, _, _, _, _, _, rfl, Sl.nil _ _ _ _ _ (by omega), Sl.nil _ _ _ _ _ (by omega), .inr ⟨by rw [HE.out]; exact h0, rfl, rfl, HE.out.symm⟩, hb8, fun b o e => (by cases e), fun b o e => (by cases e)⟩
set_option maxRecDepth 100000 in
set_option maxHeartbeats 6400000 in
theorem rfadd_c (f g : FA) (w : World) (hf : f.Rd w w.heap.size) (hg : g.Rd w w.heap.size) :
    Calls Try.prog 45 #[.agg #[.slice f.A f.n f.c, .slice f.A' f.n' f.c'], .agg #[.slice g.A g.n g.c, .slice g.A' g.n' g.c']] w (FracF w (SFr f g (SRed (val 4294967296 f.l * val 4294967296 g.l' + val 4294967296 g.l * val 4294967296 f.l') (val 4294967296 f.l' * val 4294967296 g.l')))) := by
  obtain ⟨w3, hw3, bF, bG, bR, hb, hsz⟩ := three_allocs w 25 (.slice f.A f.n f.c) (.slice f.A' f.n' f.c') (.slice g.A g.n g.c) (.slice g.A' g.n' g.c')
  obtain ⟨F0, F1⟩ := bF.cells2
  obtain ⟨G0, G1⟩ := bG.cells2
  go_enter Try.func45, Try.ntmps45
  go_wp2_with fail
  clear hw3 F0 F1 G0 G1
  refine (rpair_c f g w3 ((hf.below hb).mono hb.size) ((hg.below hb).mono hb.size)).mono ?_
  rintro e w5 ⟨rfl, hb5⟩
  replace bR := bR.keep hb5
  obtain ⟨F0, F1⟩ := (bF.keep hb5).cells2
  obtain ⟨G0, G1⟩ := (bG.keep hb5).cells2
  obtain ⟨R0, R1⟩ := bR.cells2
  have Z0 := bR.frozen 0
  have Z1 := bR.frozen 1
  have hw5 := hb.trans (hb5.mono hb.size)
  have hf5 := (hf.below hw5).mono hw5.size
  have hg5 := (hg.below hw5).mono hw5.size
  have hR5 := bR.lt
  clear bF bG hb hb5 hsz hf hg
  obtain ⟨er, her⟩ : ∃ er, errV [f, g] = er := ⟨_, rfl⟩
  have HE := hide her
  rw [her]
  clear her
  by_cases h0 : er = 0
  · subst h0
    obtain ⟨p1, p2, p3, p4, p5, p6⟩ := errV_two HE.out
    have ffn := hf5.fn p1
    have ffd := hf5.fd p2
    have fgn := hg5.fn p4
    have fgd := hg5.fd p5
    obtain ⟨a, ha⟩ : ∃ a, val 4294967296 f.l = a := ⟨_, rfl⟩
    obtain ⟨b, hbb⟩ : ∃ b, val 4294967296 f.l' = b := ⟨_, rfl⟩
    obtain ⟨c, hc⟩ : ∃ c, val 4294967296 g.l = c := ⟨_, rfl⟩
    obtain ⟨d, hd⟩ : ∃ d, val 4294967296 g.l' = d := ⟨_, rfl⟩
    rw [ha] at ffn
    rw [hbb] at ffd p3
    rw [hc] at fgn
    rw [hd] at fgd p6
    have k1 : ∀ wx, Below w5.heap.size w5 wx → Calls Try.prog 83 #[.slice f.A f.n f.c] wx (DigV wx a) := fun wx hbx => by
      have t := rdigits_c _ _ _ _ wx _ ((hf5.num.below hbx).mono hbx.size) (Nat.le_refl _) hf5.dn (by omega)
      rwa [ha] at t
    have k2 : ∀ wx, Below w5.heap.size w5 wx → Calls Try.prog 83 #[.slice f.A' f.n' f.c'] wx (DigV wx b) := fun wx hbx => by
      have t := rdigits_c _ _ _ _ wx _ ((hf5.den.below hbx).mono hbx.size) (Nat.le_refl _) hf5.dd (by omega)
      rwa [hbb] at t
    have k3 : ∀ wx, Below w5.heap.size w5 wx → Calls Try.prog 83 #[.slice g.A g.n g.c] wx (DigV wx c) := fun wx hbx => by
      have t := rdigits_c _ _ _ _ wx _ ((hg5.num.below hbx).mono hbx.size) (Nat.le_refl _) hg5.dn (by omega)
      rwa [hc] at t
    have k4 : ∀ wx, Below w5.heap.size w5 wx → Calls Try.prog 83 #[.slice g.A' g.n' g.c'] wx (DigV wx d) := fun wx hbx => by
      have t := rdigits_c _ _ _ _ wx _ ((hg5.den.below hbx).mono hbx.size) (Nat.le_refl _) hg5.dd (by omega)
      rwa [hd] at t
    have km : ∀ x y wx Ax nx cx lx Ay ny cy ly, Fits x → Fits y → Sl wx wx.heap.size .i64 Ax nx cx lx → Sl wx wx.heap.size .i64 Ay ny cy ly → Num 256 lx x → Num 256 ly y → Calls Try.prog 92 #[.slice Ax nx cx, .slice Ay ny cy] wx (DigV wx (x * y)) := fun x y wx Ax nx cx lx Ay ny cy ly fx fy sx sy Nx Ny => by
      have h1 := Nx.l256 fx sx.len
      have h2 := Ny.l256 fy sy.len
      have t := rmul_c _ _ _ _ _ _ _ _ wx _ sx sy (Nat.le_refl _) Nx.dig Ny.dig (by omega) (by omega)
      rwa [Nx.val_, Ny.val_] at t
    have kr : ∀ x y wx Ax nx cx lx Ay ny cy ly, x < 4294967296 ^ 129 → y < 4294967296 ^ 129 → 0 < y → Sl wx wx.heap.size .i64 Ax nx cx lx → Sl wx wx.heap.size .i64 Ay ny cy ly → Num 256 lx x → Num 256 ly y → Calls Try.prog 75 #[.slice Ax nx cx, .slice Ay ny cy] wx (FracF wx (SRed x y)) := fun x y wx Ax nx cx lx Ay ny cy ly fx fy hy sx sy Nx Ny => by
      have h1 := Nx.n516 fx sx.len
      have h2 := Ny.n516 fy sy.len
      exact rreduced_c _ _ _ _ _ _ _ _ _ _ wx _ sx sy (Nat.le_refl _) Nx Ny hy (by omega) (by omega)
    have hbd : b * d < 4294967296 ^ 129 := lt128 (lt_prod ffd fgd)
    have had : a * d < 4294967296 ^ 128 := lt_prod ffn fgd
    have hcb : c * b < 4294967296 ^ 128 := lt_prod fgn ffd
    have hac : a * c < 4294967296 ^ 129 := lt128 (lt_prod ffn fgn)
    have hbd0 : 0 < b * d := Nat.mul_pos p3 p6
    have HA := hide ha
    have HBB := hide hbb
    have HCC := hide hc
    have HDD := hide hd
    have HBD := hide hbd
    have HAD := hide had
    have HCB := hide hcb
    have HAC := hide hac
    have KM := hide km
    have KR := hide kr
    have K1 := hide k1
    have K2 := hide k2
    have K3 := hide k3
    have K4 := hide k4
    clear k1 k2 k3 k4 km kr ha hbb hc hd hbd had hcb hac hf5 hg5
    have Dfn := K1
    have Dfd := K2
    have Dgn := K3
    have Dgd := K4
    have ka : ∀ wx Ax nx cx lx Ay ny cy ly, Sl wx wx.heap.size .i64 Ax nx cx lx → Sl wx wx.heap.size .i64 Ay ny cy ly → Num 256 lx (a * d) → Num 256 ly (c * b) → Calls Try.prog 88 #[.slice Ax nx cx, .slice Ay ny cy] wx (DigV wx (a * d + c * b)) := fun wx Ax nx cx lx Ay ny cy ly sx sy Nx Ny => by
      have h1 := Nx.n516 (lt128 HAD.out) sx.len
      have h2 := Ny.n516 (lt128 HCB.out) sy.len
      have t := radd_c _ _ _ _ _ _ _ _ wx _ sx sy (Nat.le_refl _) Nx.dig Ny.dig (by omega) (by omega)
      rwa [Nx.val_, Ny.val_] at t
    have KA := hide ka
    clear ka
    have keep : ∀ wx, Below w5.heap.size w5 wx → wx.cell? ⟨w.heap.size, 0, none⟩ = some (.slice f.A f.n f.c) ∧ wx.cell? ⟨w.heap.size + 1, 1, none⟩ = some (.slice g.A' g.n' g.c') ∧ wx.cell? ⟨w.heap.size + 1, 0, none⟩ = some (.slice g.A g.n g.c) ∧ wx.cell? ⟨w.heap.size, 1, none⟩ = some (.slice f.A' f.n' f.c') := fun wx hbx =>
      ⟨cells_keep F0 hbx, cells_keep G1 hbx, cells_keep G0 hbx, cells_keep F1 hbx⟩
    have KB := hide keep
    clear keep
    have hbB := Below.refl w5.heap.size w5
    go_wp2
    go_region_held3 (fun wx => wx.cell? ⟨w.heap.size, 0, none⟩ = some (.slice f.A f.n f.c) ∧ wx.cell? ⟨w.heap.size + 1, 1, none⟩ = some (.slice g.A' g.n' g.c') ∧ wx.cell? ⟨w.heap.size + 1, 0, none⟩ = some (.slice g.A g.n g.c) ∧ wx.cell? ⟨w.heap.size, 1, none⟩ = some (.slice f.A' f.n' f.c'))
      (first | exact KB.out _ hbB.drew | exact KB.out _ hW1 | exact KB.out _ hW2 | exact KB.out _ hW3 | exact KB.out _ hW4 | exact KB.out _ hW5 | exact KB.out _ hW6 | exact KB.out _ hW7 | fail)
      (first
        | (go_at_call_of 83 (Value.slice f.A f.n f.c); refine (Dfn.out _ (by first | exact hbB.drew | exact hW1 | exact hW2 | exact hW3 | exact hW4 | exact hW5 | exact hW6 | exact hW7)).mono ?_; rintro e wz ⟨A1, n1, c1, l1, rfl, s1, N1, hbz, _⟩; have hW1 : Below w5.heap.size w5 wz := Go.Below.step (by first | exact hbB.drew | exact hW1 | exact hW2 | exact hW3 | exact hW4 | exact hW5 | exact hW6 | exact hW7) hbz (Nat.le_refl _); clear hbz)
        | (go_at_call_of 83 (Value.slice g.A' g.n' g.c'); refine (Dgd.out _ (by first | exact hbB.drew | exact hW1 | exact hW2 | exact hW3 | exact hW4 | exact hW5 | exact hW6 | exact hW7)).mono ?_; rintro e wz ⟨A2, n2, c2, l2, rfl, s2, N2, hbz, _⟩; have hW2 : Below w5.heap.size w5 wz := Go.Below.step (by first | exact hbB.drew | exact hW1 | exact hW2 | exact hW3 | exact hW4 | exact hW5 | exact hW6 | exact hW7) hbz (Nat.le_refl _); (try replace s1 := (s1.below hbz).mono hbz.size); clear hbz)
        | (go_at_call_of 92 (Value.slice A1 n1 c1); refine (KM.out a d _ _ _ _ l1 _ _ _ l2 ffn fgd s1 s2 N1 N2).mono ?_; rintro e wz ⟨A3, n3, c3, l3, rfl, s3, N3, hbz, _⟩; have hW3 : Below w5.heap.size w5 wz := Go.Below.step (by first | exact hbB.drew | exact hW1 | exact hW2 | exact hW3 | exact hW4 | exact hW5 | exact hW6 | exact hW7) hbz (Nat.le_refl _); clear hbz)
        | (go_at_call_of 83 (Value.slice g.A g.n g.c); refine (Dgn.out _ (by first | exact hbB.drew | exact hW1 | exact hW2 | exact hW3 | exact hW4 | exact hW5 | exact hW6 | exact hW7)).mono ?_; rintro e wz ⟨A4, n4, c4, l4, rfl, s4, N4, hbz, _⟩; have hW4 : Below w5.heap.size w5 wz := Go.Below.step (by first | exact hbB.drew | exact hW1 | exact hW2 | exact hW3 | exact hW4 | exact hW5 | exact hW6 | exact hW7) hbz (Nat.le_refl _); (try replace s3 := (s3.below hbz).mono hbz.size); clear hbz)
        | (go_at_call_of 83 (Value.slice f.A' f.n' f.c'); refine (Dfd.out _ (by first | exact hbB.drew | exact hW1 | exact hW2 | exact hW3 | exact hW4 | exact hW5 | exact hW6 | exact hW7)).mono ?_; rintro e wz ⟨A5, n5, c5, l5, rfl, s5, N5, hbz, _⟩; have hW5 : Below w5.heap.size w5 wz := Go.Below.step (by first | exact hbB.drew | exact hW1 | exact hW2 | exact hW3 | exact hW4 | exact hW5 | exact hW6 | exact hW7) hbz (Nat.le_refl _); (try replace s3 := (s3.below hbz).mono hbz.size); (try replace s4 := (s4.below hbz).mono hbz.size); clear hbz)
        | (go_at_call_of 92 (Value.slice A4 n4 c4); refine (KM.out c b _ _ _ _ l4 _ _ _ l5 fgn ffd s4 s5 N4 N5).mono ?_; rintro e wz ⟨A6, n6, c6, l6, rfl, s6, N6, hbz, _⟩; have hW6 : Below w5.heap.size w5 wz := Go.Below.step (by first | exact hbB.drew | exact hW1 | exact hW2 | exact hW3 | exact hW4 | exact hW5 | exact hW6 | exact hW7) hbz (Nat.le_refl _); (try replace s3 := (s3.below hbz).mono hbz.size); clear hbz)
        | (go_at_call 88; refine (KA.out _ _ _ _ l3 _ _ _ l6 s3 s6 N3 N6).mono ?_; rintro e wz ⟨A7, n7, c7, l7, rfl, s7, N7, hbz, _⟩; have hW7 : Below w5.heap.size w5 wz := Go.Below.step (by first | exact hbB.drew | exact hW1 | exact hW2 | exact hW3 | exact hW4 | exact hW5 | exact hW6 | exact hW7) hbz (Nat.le_refl _); clear hbz)
        | fail)
    all_goals
      obtain ⟨w7, rfl⟩ : ∃ wo : World, wo = wz := ⟨_, rfl⟩
      replace bR := bR.keep hW7
      replace F0 := cells_keep F0 hW7
      replace F1 := cells_keep F1 hW7
      replace G0 := cells_keep G0 hW7
      replace G1 := cells_keep G1 hW7
      replace R0 := cells_keep R0 hW7
      replace R1 := cells_keep R1 hW7
      replace Z0 := bR.frozen 0
      replace Z1 := bR.frozen 1
      have hw7 := hw5.trans (hW7.mono hw5.size)
      have D2 : Hid (∀ wx, Below w7.heap.size w7 wx → Calls Try.prog 83 #[.slice f.A' f.n' f.c'] wx (DigV wx b)) := fun wx hbx => K2.out wx (Go.Below.step hW7 hbx (Nat.le_refl _))
      have D4 : Hid (∀ wx, Below w7.heap.size w7 wx → Calls Try.prog 83 #[.slice g.A' g.n' g.c'] wx (DigV wx d)) := fun wx hbx => K4.out wx (Go.Below.step hW7 hbx (Nat.le_refl _))
      clear hW1 hW2 hW3 hW4 hW5 hW6 hW7 KB N1 N2 N3 N4 N5 N6 KA hbB Dfn Dgn Dfd Dgd
      have Dfd := D2
      have Dgd := D4
      have keep : ∀ wx, Below w7.heap.size w7 wx → wx.cell? ⟨w.heap.size, 1, none⟩ = some (.slice f.A' f.n' f.c') ∧ wx.cell? ⟨w.heap.size + 1, 1, none⟩ = some (.slice g.A' g.n' g.c') := fun wx hbx =>
        ⟨cells_keep F1 hbx, cells_keep G1 hbx⟩
      have KB := hide keep
      have keepS : ∀ (wx : World) (u v : Value), Below w7.heap.size w7 wx → ((wx.setCell ⟨w.heap.size + 1 + 1, 0, none⟩ u).setCell ⟨w.heap.size + 1 + 1, 1, none⟩ v).cell? ⟨w.heap.size, 1, none⟩ = some (.slice f.A' f.n' f.c') ∧ ((wx.setCell ⟨w.heap.size + 1 + 1, 0, none⟩ u).setCell ⟨w.heap.size + 1 + 1, 1, none⟩ v).cell? ⟨w.heap.size + 1, 1, none⟩ = some (.slice g.A' g.n' g.c') := fun wx u v hbx =>
        ⟨far2 (cells_keep F1 hbx) (by simp <;> omega) u v, far2 (cells_keep G1 hbx) (by simp <;> omega) u v⟩
      have KS := hide keepS
      clear keepS
      clear keep
      have hbB := Below.refl w7.heap.size w7
      go_wp2
      go_region_held3 (fun wx => wx.cell? ⟨w.heap.size, 1, none⟩ = some (.slice f.A' f.n' f.c') ∧ wx.cell? ⟨w.heap.size + 1, 1, none⟩ = some (.slice g.A' g.n' g.c'))
        (first | exact KB.out _ hbB.drew | exact KB.out _ hW1 | exact KB.out _ hW2 | exact KB.out _ hW3 | exact KB.out _ hW4 | exact KS.out _ _ _ hW4 | fail)
        (first
          | (go_at_call_of 83 (Value.slice f.A' f.n' f.c'); refine (Dfd.out _ (by first | exact hbB.drew | exact hW1 | exact hW2 | exact hW3 | exact hW4)).mono ?_; rintro e wz ⟨A1, n1, c1, l1, rfl, s1, N1, hbz, _⟩; have hW1 : Below w7.heap.size w7 wz := Go.Below.step (by first | exact hbB.drew | exact hW1 | exact hW2 | exact hW3 | exact hW4) hbz (Nat.le_refl _); (try clear q7); have q7 := (s7.below hW1).mono hW1.size; clear hbz)
          | (go_at_call_of 83 (Value.slice g.A' g.n' g.c'); refine (Dgd.out _ (by first | exact hbB.drew | exact hW1 | exact hW2 | exact hW3 | exact hW4)).mono ?_; rintro e wz ⟨A2, n2, c2, l2, rfl, s2, N2, hbz, _⟩; have hW2 : Below w7.heap.size w7 wz := Go.Below.step (by first | exact hbB.drew | exact hW1 | exact hW2 | exact hW3 | exact hW4) hbz (Nat.le_refl _); (try replace s1 := (s1.below hbz).mono hbz.size); (try clear q7); have q7 := (s7.below hW2).mono hW2.size; clear hbz)
          | (go_at_call_of 92 (Value.slice A1 n1 c1); refine (KM.out b d _ _ _ _ l1 _ _ _ l2 ffd fgd s1 s2 N1 N2).mono ?_; rintro e wz ⟨A3, n3, c3, l3, rfl, s3, N3, hbz, _⟩; have hW3 : Below w7.heap.size w7 wz := Go.Below.step (by first | exact hbB.drew | exact hW1 | exact hW2 | exact hW3 | exact hW4) hbz (Nat.le_refl _); (try clear q7); have q7 := (s7.below hW3).mono hW3.size; clear hbz)
          | (go_at_call 75; refine (KR.out (a * d + c * b) (b * d) _ _ _ _ l7 _ _ _ l3 (lt_sum HAD.out HCB.out) HBD.out hbd0 q7 s3 N7 N3).mono ?_; rintro e wz ⟨A8, n8, c8, l8, A9, n9, c9, l9, err, rfl, s8, s9, S8, hbz, fr8, fr9⟩; have hW4 : Below w7.heap.size w7 wz := Go.Below.step (by first | exact hbB.drew | exact hW1 | exact hW2 | exact hW3 | exact hW4) hbz (Nat.le_refl _); (try clear q7); have q7 := (s7.below hW4).mono hW4.size; have Q0 := cells_keep R0 hW4; have Q1 := cells_keep R1 hW4; have Y0 := frozen_keep R0 Z0 hW4; have Y1 := frozen_keep R1 Z1 hW4; clear hbz)
          | fail)
      all_goals
        have hpz := hW3.size
        have hRs := bR.lt
        have hws := hw7.size
        have hR8 := (bR.keep hW4).two (.slice A8 n8 c8) (.slice A9 n9 c9)
        have hb8 := below_two (hw7.trans (hW4.mono hw7.size)) (g := w.heap.size + 1 + 1) (by omega) (.slice A8 n8 c8) (.slice A9 n9 c9)
        have p5' := s8.two (g := w.heap.size + 1 + 1) (fun b o e _ => by have := fr8 b o e; omega) (.slice A8 n8 c8) (.slice A9 n9 c9)
        have p6' := s9.two (g := w.heap.size + 1 + 1) (fun b o e _ => by have := fr9 b o e; omega) (.slice A8 n8 c8) (.slice A9 n9 c9)
        have hz8 : ((wz.setCell ⟨w.heap.size + 1 + 1, 0, none⟩ (.slice A8 n8 c8)).setCell ⟨w.heap.size + 1 + 1, 1, none⟩ (.slice A9 n9 c9)).heap.size = wz.heap.size := by simp
        clear Q0 Q1 Y0 Y1
        go_wp2
        generalize (wz.setCell ⟨w.heap.size + 1 + 1, 0, none⟩ (.slice A8 n8 c8)).setCell ⟨w.heap.size + 1 + 1, 1, none⟩ (.slice A9 n9 c9) = w8 at *
        obtain ⟨q0, q1⟩ := hR8.cells2
        rw [← hz8] at p5' p6'
        refine bodyPost_ret (v := .tuple #[.agg #[.slice A8 n8 c8, .slice A9 n9 c9], .int .i64 err]) (by simp [results, Try.results45, go_sem, q0, q1]) rfl ?_
        exact ⟨_, _, _, _, _, _, _, _, _, rfl, p5', p6', .inl ⟨HE.out, by rw [HA.out, HBB.out, HCC.out, HDD.out]; exact S8⟩, hb8, fun b o e => (by have := fr8 b o e; omega), fun b o e => (by have := fr9 b o e; omega)⟩
  · have h0' : (er != 0) = true := by rw [bne_iff_ne]; exact h0
    have hR8 := bR.two (.slice none 0 0) (.slice none 0 0)
    have hb8 := below_two hw5 (g := w.heap.size + 1 + 1) (by omega) (.slice none 0 0) (.slice none 0 0)
    go_wp2
    generalize (w5.setCell ⟨w.heap.size + 1 + 1, 0, none⟩ (.slice none 0 0)).setCell ⟨w.heap.size + 1 + 1, 1, none⟩ (.slice none 0 0) = w8 at *
    obtain ⟨q0, q1⟩ := hR8.cells2
    refine bodyPost_ret (v := .tuple #[.agg #[.slice none 0 0, .slice none 0 0], .int .i64 er]) (by simp [results, Try.results45, go_sem, q0, q1]) rfl ?_
    exact ⟨_, _, _, _, _, _, _, _, _, rfl, Sl.nil _ _ _ _ _ (by omega), Sl.nil _ _ _ _ _ (by omega), .inr ⟨by rw [HE.out]; exact h0, rfl, rfl, HE.out.symm⟩, hb8, fun b o e => (by cases e), fun b o e => (by cases e)⟩
set_option maxRecDepth 100000 in
set_option maxHeartbeats 6400000 in
theorem rfsub_c (f g : FA) (w : World) (hf : f.Rd w w.heap.size) (hg : g.Rd w w.heap.size) :
    Calls Try.prog 47 #[.agg #[.slice f.A f.n f.c, .slice f.A' f.n' f.c'], .agg #[.slice g.A g.n g.c, .slice g.A' g.n' g.c']] w (FracF w (SFr f g (SDif (val 4294967296 f.l * val 4294967296 g.l') (val 4294967296 g.l * val 4294967296 f.l') (val 4294967296 f.l' * val 4294967296 g.l')))) := by
  obtain ⟨w3, hw3, bF, bG, bR, hb, hsz⟩ := three_allocs w 25 (.slice f.A f.n f.c) (.slice f.A' f.n' f.c') (.slice g.A g.n g.c) (.slice g.A' g.n' g.c')
  obtain ⟨F0, F1⟩ := bF.cells2
  obtain ⟨G0, G1⟩ := bG.cells2
  go_enter Try.func47, Try.ntmps47
  go_wp2_with fail
  clear hw3 F0 F1 G0 G1
  refine (rpair_c f g w3 ((hf.below hb).mono hb.size) ((hg.below hb).mono hb.size)).mono ?_
  rintro e w5 ⟨rfl, hb5⟩
  replace bR := bR.keep hb5
  obtain ⟨F0, F1⟩ := (bF.keep hb5).cells2
  obtain ⟨G0, G1⟩ := (bG.keep hb5).cells2
  obtain ⟨R0, R1⟩ := bR.cells2
  have Z0 := bR.frozen 0
  have Z1 := bR.frozen 1
  have hw5 := hb.trans (hb5.mono hb.size)
  have hf5 := (hf.below hw5).mono hw5.size
  have hg5 := (hg.below hw5).mono hw5.size
  have hR5 := bR.lt
  clear bF bG hb hb5 hsz hf hg
  obtain ⟨er, her⟩ : ∃ er, errV [f, g] = er := ⟨_, rfl⟩
  have HE := hide her
  rw [her]
  clear her
  by_cases h0 : er = 0
  · subst h0
    obtain ⟨p1, p2, p3, p4, p5, p6⟩ := errV_two HE.out
    have ffn := hf5.fn p1
    have ffd := hf5.fd p2
    have fgn := hg5.fn p4
    have fgd := hg5.fd p5
    obtain ⟨a, ha⟩ : ∃ a, val 4294967296 f.l = a := ⟨_, rfl⟩
    obtain ⟨b, hbb⟩ : ∃ b, val 4294967296 f.l' = b := ⟨_, rfl⟩
    obtain ⟨c, hc⟩ : ∃ c, val 4294967296 g.l = c := ⟨_, rfl⟩
    obtain ⟨d, hd⟩ : ∃ d, val 4294967296 g.l' = d := ⟨_, rfl⟩
    rw [ha] at ffn
    rw [hbb] at ffd p3
    rw [hc] at fgn
    rw [hd] at fgd p6
    have k1 : ∀ wx, Below w5.heap.size w5 wx → Calls Try.prog 83 #[.slice f.A f.n f.c] wx (DigV wx a) := fun wx hbx => by
      have t := rdigits_c _ _ _ _ wx _ ((hf5.num.below hbx).mono hbx.size) (Nat.le_refl _) hf5.dn (by omega)
      rwa [ha] at t
    have k2 : ∀ wx, Below w5.heap.size w5 wx → Calls Try.prog 83 #[.slice f.A' f.n' f.c'] wx (DigV wx b) := fun wx hbx => by
      have t := rdigits_c _ _ _ _ wx _ ((hf5.den.below hbx).mono hbx.size) (Nat.le_refl _) hf5.dd (by omega)
      rwa [hbb] at t
    have k3 : ∀ wx, Below w5.heap.size w5 wx → Calls Try.prog 83 #[.slice g.A g.n g.c] wx (DigV wx c) := fun wx hbx => by
      have t := rdigits_c _ _ _ _ wx _ ((hg5.num.below hbx).mono hbx.size) (Nat.le_refl _) hg5.dn (by omega)
      rwa [hc] at t
    have k4 : ∀ wx, Below w5.heap.size w5 wx → Calls Try.prog 83 #[.slice g.A' g.n' g.c'] wx (DigV wx d) := fun wx hbx => by
      have t := rdigits_c _ _ _ _ wx _ ((hg5.den.below hbx).mono hbx.size) (Nat.le_refl _) hg5.dd (by omega)
      rwa [hd] at t
    have km : ∀ x y wx Ax nx cx lx Ay ny cy ly, Fits x → Fits y → Sl wx wx.heap.size .i64 Ax nx cx lx → Sl wx wx.heap.size .i64 Ay ny cy ly → Num 256 lx x → Num 256 ly y → Calls Try.prog 92 #[.slice Ax nx cx, .slice Ay ny cy] wx (DigV wx (x * y)) := fun x y wx Ax nx cx lx Ay ny cy ly fx fy sx sy Nx Ny => by
      have h1 := Nx.l256 fx sx.len
      have h2 := Ny.l256 fy sy.len
      have t := rmul_c _ _ _ _ _ _ _ _ wx _ sx sy (Nat.le_refl _) Nx.dig Ny.dig (by omega) (by omega)
      rwa [Nx.val_, Ny.val_] at t
    have kr : ∀ x y wx Ax nx cx lx Ay ny cy ly, x < 4294967296 ^ 129 → y < 4294967296 ^ 129 → 0 < y → Sl wx wx.heap.size .i64 Ax nx cx lx → Sl wx wx.heap.size .i64 Ay ny cy ly → Num 256 lx x → Num 256 ly y → Calls Try.prog 75 #[.slice Ax nx cx, .slice Ay ny cy] wx (FracF wx (SRed x y)) := fun x y wx Ax nx cx lx Ay ny cy ly fx fy hy sx sy Nx Ny => by
      have h1 := Nx.n516 fx sx.len
      have h2 := Ny.n516 fy sy.len
      exact rreduced_c _ _ _ _ _ _ _ _ _ _ wx _ sx sy (Nat.le_refl _) Nx Ny hy (by omega) (by omega)
    have hbd : b * d < 4294967296 ^ 129 := lt128 (lt_prod ffd fgd)
    have had : a * d < 4294967296 ^ 128 := lt_prod ffn fgd
    have hcb : c * b < 4294967296 ^ 128 := lt_prod fgn ffd
    have hac : a * c < 4294967296 ^ 129 := lt128 (lt_prod ffn fgn)
    have hbd0 : 0 < b * d := Nat.mul_pos p3 p6
    have HA := hide ha
    have HBB := hide hbb
    have HCC := hide hc
    have HDD := hide hd
    have HBD := hide hbd
    have HAD := hide had
    have HCB := hide hcb
    have HAC := hide hac
    have KM := hide km
    have KR := hide kr
    have K1 := hide k1
    have K2 := hide k2
    have K3 := hide k3
    have K4 := hide k4
    clear k1 k2 k3 k4 km kr ha hbb hc hd hbd had hcb hac hf5 hg5
    have Dfn := K1
    have Dfd := K2
    have Dgn := K3
    have Dgd := K4
    have keep : ∀ wx, Below w5.heap.size w5 wx → wx.cell? ⟨w.heap.size, 0, none⟩ = some (.slice f.A f.n f.c) ∧ wx.cell? ⟨w.heap.size + 1, 1, none⟩ = some (.slice g.A' g.n' g.c') := fun wx hbx =>
      ⟨cells_keep F0 hbx, cells_keep G1 hbx⟩
    have KB := hide keep
    clear keep
    have hbB := Below.refl w5.heap.size w5
    go_wp2
    go_region_held3 (fun wx => wx.cell? ⟨w.heap.size, 0, none⟩ = some (.slice f.A f.n f.c) ∧ wx.cell? ⟨w.heap.size + 1, 1, none⟩ = some (.slice g.A' g.n' g.c'))
      (first | exact KB.out _ hbB.drew | exact KB.out _ hW1 | exact KB.out _ hW2 | exact KB.out _ hW3 | fail)
      (first
        | (go_at_call_of 83 (Value.slice f.A f.n f.c); refine (Dfn.out _ (by first | exact hbB.drew | exact hW1 | exact hW2 | exact hW3)).mono ?_; rintro e wz ⟨A1, n1, c1, l1, rfl, s1, N1, hbz, _⟩; have hW1 : Below w5.heap.size w5 wz := Go.Below.step (by first | exact hbB.drew | exact hW1 | exact hW2 | exact hW3) hbz (Nat.le_refl _); clear hbz)
        | (go_at_call_of 83 (Value.slice g.A' g.n' g.c'); refine (Dgd.out _ (by first | exact hbB.drew | exact hW1 | exact hW2 | exact hW3)).mono ?_; rintro e wz ⟨A2, n2, c2, l2, rfl, s2, N2, hbz, _⟩; have hW2 : Below w5.heap.size w5 wz := Go.Below.step (by first | exact hbB.drew | exact hW1 | exact hW2 | exact hW3) hbz (Nat.le_refl _); (try replace s1 := (s1.below hbz).mono hbz.size); clear hbz)
        | (go_at_call_of 92 (Value.slice A1 n1 c1); refine (KM.out a d _ _ _ _ l1 _ _ _ l2 ffn fgd s1 s2 N1 N2).mono ?_; rintro e wz ⟨A7, n7, c7, l7, rfl, s7, N7, hbz, _⟩; have hW3 : Below w5.heap.size w5 wz := Go.Below.step (by first | exact hbB.drew | exact hW1 | exact hW2 | exact hW3) hbz (Nat.le_refl _); clear hbz)
        | fail)
    all_goals
      obtain ⟨w6, rfl⟩ : ∃ wo : World, wo = wz := ⟨_, rfl⟩
      replace bR := bR.keep hW3
      replace F0 := cells_keep F0 hW3
      replace F1 := cells_keep F1 hW3
      replace G0 := cells_keep G0 hW3
      replace G1 := cells_keep G1 hW3
      replace R0 := cells_keep R0 hW3
      replace R1 := cells_keep R1 hW3
      replace Z0 := bR.frozen 0
      replace Z1 := bR.frozen 1
      have hw6 := hw5.trans (hW3.mono hw5.size)
      have hB6 := hW3
      have D3 : Hid (∀ wx, Below w6.heap.size w6 wx → Calls Try.prog 83 #[.slice g.A g.n g.c] wx (DigV wx c)) := fun wx hbx => K3.out wx (Go.Below.step hB6 hbx (Nat.le_refl _))
      have D2 : Hid (∀ wx, Below w6.heap.size w6 wx → Calls Try.prog 83 #[.slice f.A' f.n' f.c'] wx (DigV wx b)) := fun wx hbx => K2.out wx (Go.Below.step hB6 hbx (Nat.le_refl _))
      clear hW1 hW2 hW3 KB N1 N2 hbB Dfn Dgn Dfd Dgd
      have Dgn := D3
      have Dfd := D2
      have keep : ∀ wx, Below w6.heap.size w6 wx → wx.cell? ⟨w.heap.size + 1, 0, none⟩ = some (.slice g.A g.n g.c) ∧ wx.cell? ⟨w.heap.size, 1, none⟩ = some (.slice f.A' f.n' f.c') := fun wx hbx =>
        ⟨cells_keep G0 hbx, cells_keep F1 hbx⟩
      have KB := hide keep
      clear keep
      have hbB := Below.refl w6.heap.size w6
      go_wp2
      go_region_held3 (fun wx => wx.cell? ⟨w.heap.size + 1, 0, none⟩ = some (.slice g.A g.n g.c) ∧ wx.cell? ⟨w.heap.size, 1, none⟩ = some (.slice f.A' f.n' f.c'))
        (first | exact KB.out _ hbB.drew | exact KB.out _ hW1 | exact KB.out _ hW2 | exact KB.out _ hW3 | fail)
        (first
          | (go_at_call_of 83 (Value.slice g.A g.n g.c); refine (Dgn.out _ (by first | exact hbB.drew | exact hW1 | exact hW2 | exact hW3)).mono ?_; rintro e wz ⟨A1, n1, c1, l1, rfl, s1, N1, hbz, _⟩; have hW1 : Below w6.heap.size w6 wz := Go.Below.step (by first | exact hbB.drew | exact hW1 | exact hW2 | exact hW3) hbz (Nat.le_refl _); (try clear q7); have q7 := (s7.below hW1).mono hW1.size; clear hbz)
          | (go_at_call_of 83 (Value.slice f.A' f.n' f.c'); refine (Dfd.out _ (by first | exact hbB.drew | exact hW1 | exact hW2 | exact hW3)).mono ?_; rintro e wz ⟨A2, n2, c2, l2, rfl, s2, N2, hbz, _⟩; have hW2 : Below w6.heap.size w6 wz := Go.Below.step (by first | exact hbB.drew | exact hW1 | exact hW2 | exact hW3) hbz (Nat.le_refl _); (try replace s1 := (s1.below hbz).mono hbz.size); (try clear q7); have q7 := (s7.below hW2).mono hW2.size; clear hbz)
          | (go_at_call_of 92 (Value.slice A1 n1 c1); refine (KM.out c b _ _ _ _ l1 _ _ _ l2 fgn ffd s1 s2 N1 N2).mono ?_; rintro e wz ⟨A6, n6, c6, l6, rfl, s6, N6, hbz, _⟩; have hW3 : Below w6.heap.size w6 wz := Go.Below.step (by first | exact hbB.drew | exact hW1 | exact hW2 | exact hW3) hbz (Nat.le_refl _); (try clear q7); have q7 := (s7.below hW3).mono hW3.size; clear hbz)
          | fail)
      all_goals
        obtain ⟨w7, rfl⟩ : ∃ wo : World, wo = wz := ⟨_, rfl⟩
        replace bR := bR.keep hW3
        replace F0 := cells_keep F0 hW3
        replace F1 := cells_keep F1 hW3
        replace G0 := cells_keep G0 hW3
        replace G1 := cells_keep G1 hW3
        replace R0 := cells_keep R0 hW3
        replace R1 := cells_keep R1 hW3
        replace Z0 := bR.frozen 0
        replace Z1 := bR.frozen 1
        have hw7 := hw6.trans (hW3.mono hw6.size)
        have hB7 := Go.Below.step hB6 hW3 (Nat.le_refl _)
        clear hW1 hW2 hW3 KB N1 N2 hbB Dgn Dfd D2 D3
        replace s7 := q7
        have t2 := rcompare_c _ _ _ _ _ _ _ _ _ _ w7 _ s7 s6 N7 N6
        by_cases hle : c * b ≤ a * d
        · obtain ⟨z, hz, hz0⟩ : ∃ z, ordI (a * d) (c * b) = z ∧ 0 ≤ z := ⟨_, rfl, by
            unfold ordI
            rw [if_neg (by omega)]
            split <;> omega⟩
          rw [hz] at t2
          clear hz
          have HLE := hide hle
          go_wp2_with fail
          refine t2.mono ?_
          rintro e w9 ⟨rfl, q, hq⟩
          have hb9 : Below w7.heap.size w7 w9 := hq ▸ below_drewN (Below.refl _ _) q
          clear t2 hq hle
          replace bR := bR.keep hb9
          replace F0 := cells_keep F0 hb9
          replace F1 := cells_keep F1 hb9
          replace G0 := cells_keep G0 hb9
          replace G1 := cells_keep G1 hb9
          replace R0 := cells_keep R0 hb9
          replace R1 := cells_keep R1 hb9
          replace Z0 := bR.frozen 0
          replace Z1 := bR.frozen 1
          replace s7 := (s7.below hb9).mono hb9.size
          replace s6 := (s6.below hb9).mono hb9.size
          have hw9 := hw7.trans (hb9.mono hw7.size)
          have hB9 := Go.Below.step hB7 hb9 (Nat.le_refl _)
          have k7 := N7.n516 (lt128 HAD.out) s7.len
          have k76 : n6 ≤ n7 := by
            rw [← s6.len]
            refine (N6.length_le (by omega) n7).2 (Nat.lt_of_le_of_lt HLE.out ?_)
            exact (N7.length_le (by omega) n7).1 (by rw [s7.len]; exact Nat.le_refl _)
          have ks : ∀ wx, Below w9.heap.size w9 wx → Calls Try.prog 99 #[.slice A7 n7 c7, .slice A6 n6 c6] wx (DigV wx (a * d - c * b)) := fun wx hbx => by
            have t := rsub_c _ _ _ _ _ _ _ _ wx _ ((s7.below hbx).mono hbx.size) ((s6.below hbx).mono hbx.size) (Nat.le_refl _) N7.dig N6.dig (by omega) k76 (by rw [N7.val_, N6.val_]; exact HLE.out)
            rwa [N7.val_, N6.val_] at t
          have KSB := hide ks
          have Dfd : Hid (∀ wx, Below w9.heap.size w9 wx → Calls Try.prog 83 #[.slice f.A' f.n' f.c'] wx (DigV wx b)) := fun wx hbx => K2.out wx (Go.Below.step hB9 hbx (Nat.le_refl _))
          have Dgd : Hid (∀ wx, Below w9.heap.size w9 wx → Calls Try.prog 83 #[.slice g.A' g.n' g.c'] wx (DigV wx d)) := fun wx hbx => K4.out wx (Go.Below.step hB9 hbx (Nat.le_refl _))
          clear ks
          have keep : ∀ wx, Below w9.heap.size w9 wx → wx.cell? ⟨w.heap.size, 1, none⟩ = some (.slice f.A' f.n' f.c') ∧ wx.cell? ⟨w.heap.size + 1, 1, none⟩ = some (.slice g.A' g.n' g.c') := fun wx hbx =>
            ⟨cells_keep F1 hbx, cells_keep G1 hbx⟩
          have KB := hide keep
          have keepS : ∀ (wx : World) (u v : Value), Below w9.heap.size w9 wx → ((wx.setCell ⟨w.heap.size + 1 + 1, 0, none⟩ u).setCell ⟨w.heap.size + 1 + 1, 1, none⟩ v).cell? ⟨w.heap.size, 1, none⟩ = some (.slice f.A' f.n' f.c') ∧ ((wx.setCell ⟨w.heap.size + 1 + 1, 0, none⟩ u).setCell ⟨w.heap.size + 1 + 1, 1, none⟩ v).cell? ⟨w.heap.size + 1, 1, none⟩ = some (.slice g.A' g.n' g.c') := fun wx u v hbx =>
            ⟨far2 (cells_keep F1 hbx) (by simp <;> omega) u v, far2 (cells_keep G1 hbx) (by simp <;> omega) u v⟩
          have KS := hide keepS
          clear keepS
          clear keep
          have hbB := Below.refl w9.heap.size w9
          go_wp2
          go_region_held3 (fun wx => wx.cell? ⟨w.heap.size, 1, none⟩ = some (.slice f.A' f.n' f.c') ∧ wx.cell? ⟨w.heap.size + 1, 1, none⟩ = some (.slice g.A' g.n' g.c'))
            (first | exact KB.out _ hbB.drew | exact KB.out _ hW1 | exact KB.out _ hW2 | exact KB.out _ hW3 | exact KB.out _ hW4 | exact KB.out _ hW5 | exact KS.out _ _ _ hW5 | fail)
            (first
              | (go_at_call 99; refine (KSB.out _ (by first | exact hbB.drew | exact hW1 | exact hW2 | exact hW3 | exact hW4 | exact hW5)).mono ?_; rintro e wz ⟨A5, n5, c5, l5, rfl, s5, N5, hbz, _⟩; have hW1 : Below w9.heap.size w9 wz := Go.Below.step (by first | exact hbB.drew | exact hW1 | exact hW2 | exact hW3 | exact hW4 | exact hW5) hbz (Nat.le_refl _); clear hbz)
              | (go_at_call_of 83 (Value.slice f.A' f.n' f.c'); refine (Dfd.out _ (by first | exact hbB.drew | exact hW1 | exact hW2 | exact hW3 | exact hW4 | exact hW5)).mono ?_; rintro e wz ⟨A1, n1, c1, l1, rfl, s1, N1, hbz, _⟩; have hW2 : Below w9.heap.size w9 wz := Go.Below.step (by first | exact hbB.drew | exact hW1 | exact hW2 | exact hW3 | exact hW4 | exact hW5) hbz (Nat.le_refl _); (try replace s5 := (s5.below hbz).mono hbz.size); clear hbz)
              | (go_at_call_of 83 (Value.slice g.A' g.n' g.c'); refine (Dgd.out _ (by first | exact hbB.drew | exact hW1 | exact hW2 | exact hW3 | exact hW4 | exact hW5)).mono ?_; rintro e wz ⟨A2, n2, c2, l2, rfl, s2, N2, hbz, _⟩; have hW3 : Below w9.heap.size w9 wz := Go.Below.step (by first | exact hbB.drew | exact hW1 | exact hW2 | exact hW3 | exact hW4 | exact hW5) hbz (Nat.le_refl _); (try replace s5 := (s5.below hbz).mono hbz.size); (try replace s1 := (s1.below hbz).mono hbz.size); clear hbz)
              | (go_at_call_of 92 (Value.slice A1 n1 c1); refine (KM.out b d _ _ _ _ l1 _ _ _ l2 ffd fgd s1 s2 N1 N2).mono ?_; rintro e wz ⟨A3, n3, c3, l3, rfl, s3, N3, hbz, _⟩; have hW4 : Below w9.heap.size w9 wz := Go.Below.step (by first | exact hbB.drew | exact hW1 | exact hW2 | exact hW3 | exact hW4 | exact hW5) hbz (Nat.le_refl _); (try replace s5 := (s5.below hbz).mono hbz.size); clear hbz)
              | (go_at_call 75; refine (KR.out (a * d - c * b) (b * d) _ _ _ _ l5 _ _ _ l3 (lt128 (Nat.lt_of_le_of_lt (Nat.sub_le _ _) HAD.out)) HBD.out hbd0 s5 s3 N5 N3).mono ?_; rintro e wz ⟨A8, n8, c8, l8, A9, n9, c9, l9, err, rfl, s8, s9, S8, hbz, fr8, fr9⟩; have hW5 : Below w9.heap.size w9 wz := Go.Below.step (by first | exact hbB.drew | exact hW1 | exact hW2 | exact hW3 | exact hW4 | exact hW5) hbz (Nat.le_refl _); have Q0 := cells_keep R0 hW5; have Q1 := cells_keep R1 hW5; have Y0 := frozen_keep R0 Z0 hW5; have Y1 := frozen_keep R1 Z1 hW5; clear hbz)
              | fail)
          all_goals
            have hpz := hW4.size
            have hRs := bR.lt
            have hws := hw9.size
            have hR8 := (bR.keep hW5).two (.slice A8 n8 c8) (.slice A9 n9 c9)
            have hb8 := below_two (hw9.trans (hW5.mono hw9.size)) (g := w.heap.size + 1 + 1) (by omega) (.slice A8 n8 c8) (.slice A9 n9 c9)
            have p5' := s8.two (g := w.heap.size + 1 + 1) (fun b o e _ => by have := fr8 b o e; omega) (.slice A8 n8 c8) (.slice A9 n9 c9)
            have p6' := s9.two (g := w.heap.size + 1 + 1) (fun b o e _ => by have := fr9 b o e; omega) (.slice A8 n8 c8) (.slice A9 n9 c9)
            have hz8 : ((wz.setCell ⟨w.heap.size + 1 + 1, 0, none⟩ (.slice A8 n8 c8)).setCell ⟨w.heap.size + 1 + 1, 1, none⟩ (.slice A9 n9 c9)).heap.size = wz.heap.size := by simp
            clear Q0 Q1 Y0 Y1
            go_wp2
            generalize (wz.setCell ⟨w.heap.size + 1 + 1, 0, none⟩ (.slice A8 n8 c8)).setCell ⟨w.heap.size + 1 + 1, 1, none⟩ (.slice A9 n9 c9) = w8 at *
            obtain ⟨q0, q1⟩ := hR8.cells2
            rw [← hz8] at p5' p6'
            refine bodyPost_ret (v := .tuple #[.agg #[.slice A8 n8 c8, .slice A9 n9 c9], .int .i64 err]) (by simp [results, Try.results47, go_sem, q0, q1]) rfl ?_
            exact ⟨_, _, _, _, _, _, _, _, _, rfl, p5', p6', .inl ⟨HE.out, by rw [HA.out, HBB.out, HCC.out, HDD.out]; exact .inl ⟨HLE.out, S8⟩⟩, hb8, fun b o e => (by have := fr8 b o e; omega), fun b o e => (by have := fr9 b o e; omega)⟩
        · rw [ordI_lt (by omega)] at t2
          go_wp2_with fail
          refine t2.mono ?_
          rintro e w9 ⟨rfl, q, hq⟩
          have hb9 : Below w7.heap.size w7 w9 := hq ▸ below_drewN (Below.refl _ _) q
          clear t2 hq
          replace bR := bR.keep hb9
          replace R0 := cells_keep R0 hb9
          replace R1 := cells_keep R1 hb9
          replace Z0 := bR.frozen 0
          replace Z1 := bR.frozen 1
          have hw9 := hw7.trans (hb9.mono hw7.size)
          have hR8 := bR.two (.slice none 0 0) (.slice none 0 0)
          have hb8 := below_two hw9 (g := w.heap.size + 1 + 1) (by omega) (.slice none 0 0) (.slice none 0 0)
          go_wp2
          generalize (w9.setCell ⟨w.heap.size + 1 + 1, 0, none⟩ (.slice none 0 0)).setCell ⟨w.heap.size + 1 + 1, 1, none⟩ (.slice none 0 0) = w8 at *
          obtain ⟨q0, q1⟩ := hR8.cells2
          refine bodyPost_ret (v := .tuple #[.agg #[.slice none 0 0, .slice none 0 0], .int .i64 3]) (by simp [results, Try.results47, go_sem, q0, q1]) rfl ?_
          exact ⟨_, _, _, _, _, _, _, _, _, rfl, Sl.nil _ _ _ _ _ (by omega), Sl.nil _ _ _ _ _ (by omega), .inl ⟨HE.out, by rw [HA.out, HBB.out, HCC.out, HDD.out]; exact .inr ⟨hle, rfl, rfl, rfl⟩⟩, hb8, fun b o e => (by cases e), fun b o e => (by cases e)⟩
  · have h0' : (er != 0) = true := by rw [bne_iff_ne]; exact h0
    have hR8 := bR.two (.slice none 0 0) (.slice none 0 0)
    have hb8 := below_two hw5 (g := w.heap.size + 1 + 1) (by omega) (.slice none 0 0) (.slice none 0 0)
    go_wp2
    generalize (w5.setCell ⟨w.heap.size + 1 + 1, 0, none⟩ (.slice none 0 0)).setCell ⟨w.heap.size + 1 + 1, 1, none⟩ (.slice none 0 0) = w8 at *
    obtain ⟨q0, q1⟩ := hR8.cells2
    refine bodyPost_ret (v := .tuple #[.agg #[.slice none 0 0, .slice none 0 0], .int .i64 er]) (by simp [results, Try.results47, go_sem, q0, q1]) rfl ?_
    exact ⟨_, _, _, _, _, _, _, _, _, rfl, Sl.nil _ _ _ _ _ (by omega), Sl.nil _ _ _ _ _ (by omega), .inr ⟨by rw [HE.out]; exact h0, rfl, rfl, HE.out.symm⟩, hb8, fun b o e => (by cases e), fun b o e => (by cases e)⟩
end Go.Proofs.Ytgilhkdmgbeieaa
