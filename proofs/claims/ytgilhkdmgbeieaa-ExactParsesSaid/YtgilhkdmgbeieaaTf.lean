/- Contracts of the reference's Reduce, FracText. -/
import Derived.Test.YtgilhkdmgbeieaaSb
import Derived.Test.YtgilhkdmgbeieaaSf
namespace Go.Proofs.Ytgilhkdmgbeieaa
open Go.RowKit

set_option maxRecDepth 100000 in
set_option maxHeartbeats 6400000 in
theorem rreduce_c (f : FA) (w : World) (hf : f.Rd w w.heap.size) :
    Calls Try.prog 40 #[.agg #[.slice f.A f.n f.c, .slice f.A' f.n' f.c']] w (FracV w (SReduce f)) := by
  obtain ⟨w3, hw3, bF, bR, hb, hsz⟩ := two_allocs w 25 (.slice f.A f.n f.c) (.slice f.A' f.n' f.c') (.slice none 0 0) (.slice none 0 0)
  obtain ⟨F0, F1⟩ := bF.cells2
  go_enter Try.func40, Try.ntmps40
  go_wp2_with fail
  clear hw3 F0 F1
  refine (rcheckfrac_c f w3 _ ((hf.below hb).mono hb.size) (Nat.le_refl _)).mono ?_
  rintro e w5 ⟨rfl, hb5⟩
  replace bR := bR.keep hb5
  obtain ⟨F0, F1⟩ := (bF.keep hb5).cells2
  obtain ⟨R0, R1⟩ := bR.cells2
  have Z0 := bR.frozen 0
  have Z1 := bR.frozen 1
  have hw5 := hb.trans (hb5.mono hb.size)
  have hf5 := (hf.below hw5).mono hw5.size
  have hR5 := bR.lt
  clear bF hb hb5 hsz hf
  obtain ⟨er, her⟩ : ∃ er, errV [f] = er := ⟨_, rfl⟩
  have HE := hide her
  rw [her]
  clear her
  by_cases h0 : er = 0
  · subst h0
    obtain ⟨p1, p2, p3⟩ := errV_one HE.out
    have ffn := hf5.fn p1
    have ffd := hf5.fd p2
    obtain ⟨a, ha⟩ : ∃ a, val 4294967296 f.l = a := ⟨_, rfl⟩
    obtain ⟨b, hbb⟩ : ∃ b, val 4294967296 f.l' = b := ⟨_, rfl⟩
    rw [ha] at ffn
    rw [hbb] at ffd p3
    have k1 : ∀ wx, Below w5.heap.size w5 wx → Calls Try.prog 83 #[.slice f.A f.n f.c] wx (DigV wx a) := fun wx hbx => by
      have t := rdigits_c _ _ _ _ wx _ ((hf5.num.below hbx).mono hbx.size) (Nat.le_refl _) hf5.dn (by omega)
      rwa [ha] at t
    have k2 : ∀ wx, Below w5.heap.size w5 wx → Calls Try.prog 83 #[.slice f.A' f.n' f.c'] wx (DigV wx b) := fun wx hbx => by
      have t := rdigits_c _ _ _ _ wx _ ((hf5.den.below hbx).mono hbx.size) (Nat.le_refl _) hf5.dd (by omega)
      rwa [hbb] at t
    have kr : ∀ wx Ax nx cx lx Ay ny cy ly, Sl wx wx.heap.size .i64 Ax nx cx lx → Sl wx wx.heap.size .i64 Ay ny cy ly → Num 256 lx a → Num 256 ly b → Calls Try.prog 75 #[.slice Ax nx cx, .slice Ay ny cy] wx (FracF wx (SRed a b)) := fun wx Ax nx cx lx Ay ny cy ly sx sy Nx Ny => by
      have h1 := Nx.l256 ffn sx.len
      have h2 := Ny.l256 ffd sy.len
      exact rreduced_c _ _ _ _ _ _ _ _ _ _ wx _ sx sy (Nat.le_refl _) Nx Ny p3 (by omega) (by omega)
    have keep : ∀ wx, Below w5.heap.size w5 wx → wx.cell? ⟨w.heap.size, 0, none⟩ = some (.slice f.A f.n f.c) ∧ wx.cell? ⟨w.heap.size, 1, none⟩ = some (.slice f.A' f.n' f.c') := fun wx hbx =>
      ⟨cells_keep F0 hbx, cells_keep F1 hbx⟩
    have keepS : ∀ (wx : World) (u v : Value), Below w5.heap.size w5 wx → ((wx.setCell ⟨w.heap.size + 1, 0, none⟩ u).setCell ⟨w.heap.size + 1, 1, none⟩ v).cell? ⟨w.heap.size, 0, none⟩ = some (.slice f.A f.n f.c) ∧ ((wx.setCell ⟨w.heap.size + 1, 0, none⟩ u).setCell ⟨w.heap.size + 1, 1, none⟩ v).cell? ⟨w.heap.size, 1, none⟩ = some (.slice f.A' f.n' f.c') := fun wx u v hbx =>
      ⟨far2 (cells_keep F0 hbx) (by simp) u v, far2 (cells_keep F1 hbx) (by simp) u v⟩
    have K1 := hide k1
    have K2 := hide k2
    have KR := hide kr
    have KB := hide keep
    have KS := hide keepS
    have HA := hide ha
    have HBB := hide hbb
    clear k1 k2 kr keep keepS ha hbb hf5
    have hbB := Below.refl w5.heap.size w5
    go_wp2
    go_region_held3 (fun wx => wx.cell? ⟨w.heap.size, 0, none⟩ = some (.slice f.A f.n f.c) ∧ wx.cell? ⟨w.heap.size, 1, none⟩ = some (.slice f.A' f.n' f.c'))
      (first | exact KB.out _ hbB.drew | exact KB.out _ hW1 | exact KB.out _ hW2 | exact KB.out _ hW3 | exact KS.out _ _ _ hW3 | fail)
      (first
        | (go_at_call_of 83 (Value.slice f.A f.n f.c); refine (K1.out _ (by first | exact hbB.drew | exact hW2)).mono ?_; rintro e wz ⟨A1, n1, c1, l1, rfl, s1, N1, hbz, _⟩; have hW1 : Below w5.heap.size w5 wz := Go.Below.step (by first | exact hbB.drew | exact hW2) hbz (Nat.le_refl _); (try replace s2 := (s2.below hbz).mono hbz.size); clear hbz)
        | (go_at_call_of 83 (Value.slice f.A' f.n' f.c'); refine (K2.out _ (by first | exact hbB.drew | exact hW1)).mono ?_; rintro e wz ⟨A2, n2, c2, l2, rfl, s2, N2, hbz, _⟩; have hW2 : Below w5.heap.size w5 wz := Go.Below.step (by first | exact hbB.drew | exact hW1) hbz (Nat.le_refl _); (try replace s1 := (s1.below hbz).mono hbz.size); clear hbz)
        | (go_at_call 75; refine (KR.out _ _ _ _ l1 _ _ _ l2 s1 s2 N1 N2).mono ?_; rintro e wz ⟨A8, n8, c8, l8, A9, n9, c9, l9, err, rfl, s8, s9, S8, hbz, fr8, fr9⟩; have hW3 : Below w5.heap.size w5 wz := Go.Below.step (by first | exact hW2 | exact hW1) hbz (Nat.le_refl _); have Q0 := cells_keep R0 hW3; have Q1 := cells_keep R1 hW3; have Y0 := frozen_keep R0 Z0 hW3; have Y1 := frozen_keep R1 Z1 hW3)
        | fail)
    all_goals
      have hp1 := hW1.size
      have hp2 := hW2.size
      have hws := hw5.size
      have hR8 := (bR.keep hW3).two (.slice A8 n8 c8) (.slice A9 n9 c9)
      have hb8 := below_two (hw5.trans (hW3.mono hw5.size)) (g := w.heap.size + 1) (by omega) (.slice A8 n8 c8) (.slice A9 n9 c9)
      have p5' := s8.two (g := w.heap.size + 1) (fun b o e _ => by have := fr8 b o e; omega) (.slice A8 n8 c8) (.slice A9 n9 c9)
      have p6' := s9.two (g := w.heap.size + 1) (fun b o e _ => by have := fr9 b o e; omega) (.slice A8 n8 c8) (.slice A9 n9 c9)
      have hz8 : ((wz.setCell ⟨w.heap.size + 1, 0, none⟩ (.slice A8 n8 c8)).setCell ⟨w.heap.size + 1, 1, none⟩ (.slice A9 n9 c9)).heap.size = wz.heap.size := by simp
      clear Q0 Q1 Y0 Y1
      go_wp2
      generalize (wz.setCell ⟨w.heap.size + 1, 0, none⟩ (.slice A8 n8 c8)).setCell ⟨w.heap.size + 1, 1, none⟩ (.slice A9 n9 c9) = w8 at *
      obtain ⟨q0, q1⟩ := hR8.cells2
      rw [← hz8] at p5' p6'
      refine bodyPost_ret (v := .tuple #[.agg #[.slice A8 n8 c8, .slice A9 n9 c9], .int .i64 err]) (by simp [results, Try.results40, go_sem, q0, q1]) rfl ?_
      exact ⟨_, _, _, _, _, _, _, _, _, rfl, p5', p6', .inl ⟨HE.out, by rw [HA.out, HBB.out]; exact S8⟩, hb8⟩
  · have h0' : (er != 0) = true := by rw [bne_iff_ne]; exact h0
    have hR8 := bR.two (.slice none 0 0) (.slice none 0 0)
    have hb8 := below_two hw5 (g := w.heap.size + 1) (by omega) (.slice none 0 0) (.slice none 0 0)
    go_wp2
    generalize (w5.setCell ⟨w.heap.size + 1, 0, none⟩ (.slice none 0 0)).setCell ⟨w.heap.size + 1, 1, none⟩ (.slice none 0 0) = w8 at *
    obtain ⟨q0, q1⟩ := hR8.cells2
    refine bodyPost_ret (v := .tuple #[.agg #[.slice none 0 0, .slice none 0 0], .int .i64 er]) (by simp [results, Try.results40, go_sem, q0, q1]) rfl ?_
    exact ⟨_, _, _, _, _, _, _, _, _, rfl, Sl.nil _ _ _ _ _ (by omega), Sl.nil _ _ _ _ _ (by omega), .inr ⟨by rw [HE.out]; exact h0, rfl, rfl, HE.out.symm⟩, hb8⟩

set_option maxRecDepth 100000 in
set_option maxHeartbeats 6400000 in
theorem rfractext_c (f : FA) (w : World) (hf : f.Rd w w.heap.size) :
    Calls Try.prog 42 #[.agg #[.slice f.A f.n f.c, .slice f.A' f.n' f.c']] w fun e w' => ∃ s err, e = .returned (.tuple #[.string s, .int .i64 err]) ∧ SText f s err ∧ Below w.heap.size w w' := by
  have hb := (Below.refl w.heap.size w).alloc (Nat.le_refl _) (.cells #[.slice f.A f.n f.c, .slice f.A' f.n' f.c'] 25)
  obtain ⟨F0, F1⟩ := (Blk.new w 25 #[.slice f.A f.n f.c, .slice f.A' f.n' f.c']).cells2
  go_enter Try.func42, Try.ntmps42
  go_wp2_with fail
  generalize (w.alloc (.cells #[.slice f.A f.n f.c, .slice f.A' f.n' f.c'] 25)) = w1 at *
  refine (rreduce_c f w1 ((hf.below hb).mono hb.size)).mono ?_
  rintro e w2 ⟨A, n, c, l, A', n', c', l', err, rfl, s1, s2, hS, hb2⟩
  have hbw2 := hb.trans (hb2.mono hb.size)
  clear F0 F1 hb hb2
  by_cases h0 : err = 0
  · subst h0
    go_wp2
    have hX := Blk.new w2 25 #[.slice A n c, .slice A' n' c']
    have hb3 := (Below.refl w2.heap.size w2).alloc (Nat.le_refl _) (.cells #[.slice A n c, .slice A' n' c'] 25)
    generalize w2.alloc (.cells #[.slice A n c, .slice A' n' c'] 25) = w3 at *
    have s1' := (s1.below hb3).mono hb3.size
    have s2' := (s2.below hb3).mono hb3.size
    have hbw3 := hbw2.trans (hb3.mono hbw2.size)
    obtain ⟨hc0, hc1⟩ := hX.cells2
    clear hb3 hX s1 s2 hbw2
    have hN : Num 4294967296 l (val 4294967296 l) ∧ Num 4294967296 l' (val 4294967296 l') ∧ n ≤ 64 ∧ n' ≤ 64 := by
      rcases hS with ⟨_, ⟨h1, h2, h3, h4, _⟩ | ⟨_, h, h', _⟩⟩ | ⟨_, h, h', _⟩
      · have e1 := h3.fits.2 h1
        have e2 := h4.fits.2 h2
        rw [s1'.len] at e1
        rw [s2'.len] at e2
        rw [h3.val_, h4.val_]
        exact ⟨h3, h4, e1, e2⟩
      all_goals
        have e1 := s1'.len
        have e2 := s2'.len
        subst h h'
        simp at e1 e2
        exact ⟨Num.nil _, Num.nil _, by omega, by omega⟩
    obtain ⟨n1, n2, hl1, hl2⟩ := hN
    have HS := hide hS
    clear hS
    obtain ⟨X, hX⟩ : ∃ X, strN (textN (val 4294967296 l)) = X := ⟨_, rfl⟩
    obtain ⟨Y, hY⟩ : ∃ Y, strN (textN (val 4294967296 l')) = Y := ⟨_, rfl⟩
    have hXs : X.size ≤ 1000000 := by
      rw [← hX, strN_size]
      have := textN_len n1.lt
      rw [s1'.len] at this; omega
    have hYs : Y.size ≤ 1000000 := by
      rw [← hY, strN_size]
      have := textN_len n2.lt
      rw [s2'.len] at this; omega
    have f1 := s1'.fits n1.dig hl1
    have f2 := s2'.fits n2.dig hl2
    have HX := hide hX
    have HY := hide hY
    clear hX hY
    have k1 : ∀ wx, Below w3.heap.size w3 wx → Calls Try.prog 83 #[.slice A n c] wx (DigV wx (val 4294967296 l)) := fun wx hbx =>
      rdigits_c _ _ _ _ wx _ ((s1'.below hbx).mono hbx.size) (Nat.le_refl _) n1.dig (by omega)
    have k2 : ∀ wx, Below w3.heap.size w3 wx → Calls Try.prog 83 #[.slice A' n' c'] wx (DigV wx (val 4294967296 l')) := fun wx hbx =>
      rdigits_c _ _ _ _ wx _ ((s2'.below hbx).mono hbx.size) (Nat.le_refl _) n2.dig (by omega)
    have k3 : ∀ wx Ax nx cx lx, Sl wx wx.heap.size .i64 Ax nx cx lx → Num 256 lx (val 4294967296 l) → Calls Try.prog 96 #[.slice Ax nx cx] wx fun e w' => e = .returned (.string X) ∧ Below wx.heap.size wx w' := fun wx Ax nx cx lx sx Nx => by
      have h1 := Nx.l256 f1 sx.len
      have t := rtext1_c _ _ _ _ _ wx sx Nx (by omega)
      rwa [HX.out] at t
    have k4 : ∀ wx Ax nx cx lx, Sl wx wx.heap.size .i64 Ax nx cx lx → Num 256 lx (val 4294967296 l') → Calls Try.prog 96 #[.slice Ax nx cx] wx fun e w' => e = .returned (.string Y) ∧ Below wx.heap.size wx w' := fun wx Ax nx cx lx sx Nx => by
      have h1 := Nx.l256 f2 sx.len
      have t := rtext1_c _ _ _ _ _ wx sx Nx (by omega)
      rwa [HY.out] at t
    have keep : ∀ wx, Below w3.heap.size w3 wx → wx.cell? ⟨w2.heap.size, 0, none⟩ = some (.slice A n c) ∧ wx.cell? ⟨w2.heap.size, 1, none⟩ = some (.slice A' n' c') := fun wx hbx => ⟨cells_keep hc0 hbx, cells_keep hc1 hbx⟩
    have K1 := hide k1
    have K2 := hide k2
    have K3 := hide k3
    have K4 := hide k4
    have KB := hide keep
    clear k1 k2 k3 k4 keep s1' s2'
    obtain ⟨X1, hX1⟩ : ∃ X1 : ByteArray, X ++ ⟨#[47]⟩ = X1 := ⟨_, rfl⟩
    obtain ⟨Z, hZ⟩ : ∃ Z : ByteArray, X1 ++ Y = Z := ⟨_, rfl⟩
    have hX1s : X1.size ≤ 1000001 := by rw [← hX1, ByteArray.size_append, size47]; omega
    have hadd1 : ∀ wx : World, (Op.stringOp .add X ⟨#[47]⟩).run Try.prog wx = .ok (.string X1) wx := fun wx => by rw [run_string_add_sum wx X ⟨#[47]⟩ (by rw [size47]; omega), hX1]
    have hadd2 : ∀ wx : World, (Op.stringOp .add X1 Y).run Try.prog wx = .ok (.string Z) wx := fun wx => by rw [run_string_add_sum wx X1 Y (by omega), hZ]
    have HX1 := hide hX1
    have HZ := hide hZ
    clear hX1 hZ
    have hbB := Below.refl w3.heap.size w3
    go_region_held3 (fun w' => w'.cell? ⟨w2.heap.size, 0, none⟩ = some (.slice A n c) ∧ w'.cell? ⟨w2.heap.size, 1, none⟩ = some (.slice A' n' c'))
      (first | exact KB.out _ hbB.drew | exact KB.out _ hW1 | exact KB.out _ hW2 | exact KB.out _ hW3 | exact KB.out _ hW4 | assumption | fail)
      (first
        | (go_at_call_of 83 (Value.slice A n c); refine (K1.out _ (by first | exact hbB.drew | exact hW4)).mono ?_; rintro e wz ⟨A1, m1, d1, k1, rfl, s1, N1, hbz, _⟩; have hW1 : Below w3.heap.size w3 wz := Go.Below.step (by first | exact hbB.drew | exact hW4) hbz (Nat.le_refl _))
        | (go_at_call_of 83 (Value.slice A' n' c'); refine (K2.out _ (by first | exact hbB.drew | exact hW2)).mono ?_; rintro e wz ⟨A2, m2, d2, k2, rfl, s2, N2, hbz, _⟩; have hW3 : Below w3.heap.size w3 wz := Go.Below.step (by first | exact hbB.drew | exact hW2) hbz (Nat.le_refl _))
        | (go_at_call_of 96 (Value.slice A1 m1 d1); refine (K3.out _ _ _ _ k1 s1 N1).mono ?_; rintro e wz ⟨rfl, hbz⟩; have hW2 : Below w3.heap.size w3 wz := Go.Below.step hW1 hbz (Nat.le_refl _))
        | (go_at_call_of 96 (Value.slice A2 m2 d2); refine (K4.out _ _ _ _ k2 s2 N2).mono ?_; rintro e wz ⟨rfl, hbz⟩; have hW4 : Below w3.heap.size w3 wz := Go.Below.step hW3 hbz (Nat.le_refl _))
        | fail)
    all_goals
      go_wp2
      go_ret2
      refine ⟨_, _, rfl, ⟨l, l', HS.out, ?_⟩, hbw3.trans (hW4.mono hbw3.size)⟩
      rw [if_pos rfl, show textN (val 4294967296 l) ++ 47 :: textN (val 4294967296 l') = textN (val 4294967296 l) ++ [47] ++ textN (val 4294967296 l') by simp, strN_append, strN_append, strN47, HX.out, HX1.out, HY.out, HZ.out]
  · have h0' : (err != 0) = true := by rw [bne_iff_ne]; exact h0
    go_wp2
    go_ret2
    exact ⟨_, _, rfl, ⟨_, _, hS, by rw [if_neg h0]; rfl⟩, hbw2.alloc hbw2.size _⟩
end Go.Proofs.Ytgilhkdmgbeieaa
