/- The contract of the reference's FracCompare. Contracts of the reference's pair, Reduce. -/
import Derived.Test.YtgilhkdmgbeieaaTb
import Derived.Test.YtgilhkdmgbeieaaSb
namespace Go.Proofs.Ytgilhkdmgbeieaa
open Go.RowKit

theorem two_allocs (w : World) (F : TypeId) (x y u v : Value) : ∃ w3 : World, (w.alloc (.cells #[x, y] F)).alloc (.cells #[u, v] F) = w3 ∧
    Blk w3 w.heap.size F #[x, y] ∧ Blk w3 (w.heap.size + 1) F #[u, v] ∧ Below w.heap.size w w3 ∧ w3.heap.size = w.heap.size + 1 + 1 := by
  refine ⟨_, rfl, (Blk.new w F #[x, y]).alloc _, ?_, ?_, by simp⟩
  · have h := Blk.new (w.alloc (.cells #[x, y] F)) F #[u, v]
    simpa using h
  · exact ((Below.refl _ _).alloc (Nat.le_refl _) _).alloc (by simp) _
theorem errV_cases (f : FA) : errV [f] = 4 ∨ errV [f] = 7 ∨ errV [f] = 0 := by
  unfold errV
  split
  · exact .inl rfl
  · split
    · exact .inr (.inl rfl)
    · exact .inr (.inr rfl)
theorem errV_pair (f g : FA) : errV [f, g] = if errV [f] = 4 ∨ errV [g] = 4 then 4 else if errV [f] ≠ 0 ∨ errV [g] ≠ 0 then 7 else 0 := by
  unfold errV
  simp only [List.any_cons, List.any_nil, Bool.or_false]
  cases f.long <;> cases g.long <;> cases f.zero <;> cases g.zero <;> simp

set_option maxRecDepth 100000 in
set_option maxHeartbeats 3200000 in
theorem rpair_c (f g : FA) (w : World) (hf : f.Rd w w.heap.size) (hg : g.Rd w w.heap.size) :
    Calls Try.prog 97 #[.agg #[.slice f.A f.n f.c, .slice f.A' f.n' f.c'], .agg #[.slice g.A g.n g.c, .slice g.A' g.n' g.c']] w fun e w' => e = .returned (.int .i64 (errV [f, g])) ∧ Below w.heap.size w w' := by
  obtain ⟨w3, hw3, bF, bG, hb, hsz⟩ := two_allocs w 25 (.slice f.A f.n f.c) (.slice f.A' f.n' f.c') (.slice g.A g.n g.c) (.slice g.A' g.n' g.c')
  obtain ⟨ef, hef⟩ : ∃ ef, errV [f] = ef := ⟨_, rfl⟩
  obtain ⟨eg, heg⟩ : ∃ eg, errV [g] = eg := ⟨_, rfl⟩
  obtain ⟨er, her⟩ : ∃ er, errV [f, g] = er := ⟨_, rfl⟩
  have hcf := errV_cases f
  have hcg := errV_cases g
  have hp := errV_pair f g
  have tf : ∀ wx, Below w3.heap.size w3 wx → Calls Try.prog 38 #[.agg #[.slice f.A f.n f.c, .slice f.A' f.n' f.c']] wx fun e w' => e = .returned (.int .i64 ef) ∧ Below wx.heap.size wx w' := fun wx hbx => by
    have t := rcheckfrac_c f wx _ ((hf.below (Go.Below.step hb hbx (Nat.le_refl _))).mono (Go.Below.step hb hbx (Nat.le_refl _)).size) (Nat.le_refl _)
    rwa [hef] at t
  have tg : ∀ wx, Below w3.heap.size w3 wx → Calls Try.prog 38 #[.agg #[.slice g.A g.n g.c, .slice g.A' g.n' g.c']] wx fun e w' => e = .returned (.int .i64 eg) ∧ Below wx.heap.size wx w' := fun wx hbx => by
    have t := rcheckfrac_c g wx _ ((hg.below (Go.Below.step hb hbx (Nat.le_refl _))).mono (Go.Below.step hb hbx (Nat.le_refl _)).size) (Nat.le_refl _)
    rwa [heg] at t
  rw [hef] at hcf
  rw [heg] at hcg
  rw [hef, heg, her] at hp
  rw [her]
  have TF := hide tf
  have TG := hide tg
  have HP := hide hp
  obtain ⟨F0, F1⟩ := bF.cells2
  obtain ⟨G0, G1⟩ := bG.cells2
  clear tf tg hp hef heg her hf hg bF bG
  have hb33 := Below.refl w3.heap.size w3
  go_enter Try.func97, Try.ntmps97
  go_wp2_with fail
  clear hw3
  refine (TF.out _ hb33).mono ?_
  rintro e w4 ⟨rfl, hb4⟩
  have hb4 := hb4
  replace F0 := cells_keep F0 hb4
  replace F1 := cells_keep F1 hb4
  replace G0 := cells_keep G0 hb4
  replace G1 := cells_keep G1 hb4
  by_cases h1 : ef = 4
  · have he : er = 4 := by have := HP.out; rw [if_pos (.inl h1)] at this; exact this
    subst h1 he
    go_wp2
    go_ret
    exact ⟨rfl, hb.trans (hb4.mono hb.size)⟩
  · have h1' : (ef == 4) = false := beq_eq_false_iff_ne.2 h1
    go_wp2_with fail
    refine (TG.out _ hb4).mono ?_
    rintro e w5 ⟨rfl, hb5'⟩
    have hb5 := Go.Below.step hb4 hb5' (Nat.le_refl _)
    replace F0 := cells_keep F0 hb5'
    replace F1 := cells_keep F1 hb5'
    replace G0 := cells_keep G0 hb5'
    replace G1 := cells_keep G1 hb5'
    clear hb5'
    by_cases h2 : eg = 4
    · have he : er = 4 := by have := HP.out; rw [if_pos (.inr h2)] at this; exact this
      subst h2 he
      go_wp2
      go_ret
      exact ⟨rfl, hb.trans (hb5.mono hb.size)⟩
    · have h2' : (eg == 4) = false := beq_eq_false_iff_ne.2 h2
      go_wp2_with fail
      refine (TF.out _ hb5).mono ?_
      rintro e w6 ⟨rfl, hb6'⟩
      have hb6 := Go.Below.step hb5 hb6' (Nat.le_refl _)
      replace F0 := cells_keep F0 hb6'
      replace F1 := cells_keep F1 hb6'
      replace G0 := cells_keep G0 hb6'
      replace G1 := cells_keep G1 hb6'
      clear hb6'
      by_cases h3 : ef = 0
      · have h3' : (ef != 0) = false := by simp [h3]
        go_wp2_with fail
        refine (TG.out _ hb6).mono ?_
        rintro e w7 ⟨rfl, hb7'⟩
        have hb7 := Go.Below.step hb6 hb7' (Nat.le_refl _)
        by_cases h4 : eg = 0
        · have h4' : (eg != 0) = false := by simp [h4]
          have he : er = 0 := by have := HP.out; rw [if_neg (by omega), if_neg (by omega)] at this; exact this
          subst he
          go_wp2
          go_ret
          exact ⟨rfl, hb.trans (hb7.mono hb.size)⟩
        · have h4' : (eg != 0) = true := by simp [h4]
          have he : er = 7 := by have := HP.out; rw [if_neg (by omega), if_pos (by omega)] at this; exact this
          subst he
          go_wp2
          go_ret
          exact ⟨rfl, hb.trans (hb7.mono hb.size)⟩
      · have h3' : (ef != 0) = true := by simp [h3]
        have he : er = 7 := by have := HP.out; rw [if_neg (by omega), if_pos (by omega)] at this; exact this
        subst he
        go_wp2
        go_ret
        exact ⟨rfl, hb.trans (hb6.mono hb.size)⟩


set_option maxRecDepth 100000 in
set_option maxHeartbeats 40000000 in
theorem rfcompare_c (f g : FA) (w : World) (hf : f.Rd w w.heap.size) (hg : g.Rd w w.heap.size) :
    Calls Try.prog 43 #[.agg #[.slice f.A f.n f.c, .slice f.A' f.n' f.c'], .agg #[.slice g.A g.n g.c, .slice g.A' g.n' g.c']] w
      fun e w' => e = .returned (.tuple #[.int .i64 (fcmpV f g), .int .i64 (errV [f, g])]) ∧ Below w.heap.size w w' := by
  obtain ⟨w3, hw3, bF, bG, hb, hsz⟩ := two_allocs w 25 (.slice f.A f.n f.c) (.slice f.A' f.n' f.c') (.slice g.A g.n g.c) (.slice g.A' g.n' g.c')
  obtain ⟨F0, F1⟩ := bF.cells2
  obtain ⟨G0, G1⟩ := bG.cells2
  go_enter Try.func43, Try.ntmps43
  go_wp2_with fail
  clear hw3 F0 F1 G0 G1
  refine (rpair_c f g w3 ((hf.below hb).mono hb.size) ((hg.below hb).mono hb.size)).mono ?_
  rintro e w4 ⟨rfl, hb4⟩
  obtain ⟨F0, F1⟩ := (bF.keep hb4).cells2
  obtain ⟨G0, G1⟩ := (bG.keep hb4).cells2
  have hw4 := hb.trans (hb4.mono hb.size)
  have hf4 := (hf.below hw4).mono hw4.size
  have hg4 := (hg.below hw4).mono hw4.size
  clear bF bG hb hb4 hsz hf hg
  obtain ⟨er, her⟩ : ∃ er, errV [f, g] = er := ⟨_, rfl⟩
  have HE := hide her
  rw [her]
  clear her
  by_cases h0 : er = 0
  · subst h0
    obtain ⟨p1, p2, p3, p4, p5, p6⟩ := errV_two HE.out
    have ffn := hf4.fn p1
    have ffd := hf4.fd p2
    have fgn := hg4.fn p4
    have fgd := hg4.fd p5
    obtain ⟨a, ha⟩ : ∃ a, val 4294967296 f.l = a := ⟨_, rfl⟩
    obtain ⟨b, hbb⟩ : ∃ b, val 4294967296 f.l' = b := ⟨_, rfl⟩
    obtain ⟨c, hc⟩ : ∃ c, val 4294967296 g.l = c := ⟨_, rfl⟩
    obtain ⟨d, hd⟩ : ∃ d, val 4294967296 g.l' = d := ⟨_, rfl⟩
    rw [ha] at ffn
    rw [hbb] at ffd
    rw [hc] at fgn
    rw [hd] at fgd
    obtain ⟨z, hz⟩ : ∃ z, fcmpV f g = z := ⟨_, rfl⟩
    have hz2 : ordI (a * d) (c * b) = z := by
      rw [← hz]
      unfold fcmpV
      rw [if_pos HE.out, ha, hbb, hc, hd]
    have k1 : ∀ wx, Below w4.heap.size w4 wx → Calls Try.prog 83 #[.slice f.A f.n f.c] wx (DigV wx a) := fun wx hbx => by
      have t := rdigits_c _ _ _ _ wx _ ((hf4.num.below hbx).mono hbx.size) (Nat.le_refl _) hf4.dn (by omega)
      rwa [ha] at t
    have k2 : ∀ wx, Below w4.heap.size w4 wx → Calls Try.prog 83 #[.slice f.A' f.n' f.c'] wx (DigV wx b) := fun wx hbx => by
      have t := rdigits_c _ _ _ _ wx _ ((hf4.den.below hbx).mono hbx.size) (Nat.le_refl _) hf4.dd (by omega)
      rwa [hbb] at t
    have k3 : ∀ wx, Below w4.heap.size w4 wx → Calls Try.prog 83 #[.slice g.A g.n g.c] wx (DigV wx c) := fun wx hbx => by
      have t := rdigits_c _ _ _ _ wx _ ((hg4.num.below hbx).mono hbx.size) (Nat.le_refl _) hg4.dn (by omega)
      rwa [hc] at t
    have k4 : ∀ wx, Below w4.heap.size w4 wx → Calls Try.prog 83 #[.slice g.A' g.n' g.c'] wx (DigV wx d) := fun wx hbx => by
      have t := rdigits_c _ _ _ _ wx _ ((hg4.den.below hbx).mono hbx.size) (Nat.le_refl _) hg4.dd (by omega)
      rwa [hd] at t
    have km : ∀ x y wx Ax nx cx lx Ay ny cy ly, Fits x → Fits y → Sl wx wx.heap.size .i64 Ax nx cx lx → Sl wx wx.heap.size .i64 Ay ny cy ly → Num 256 lx x → Num 256 ly y → Calls Try.prog 92 #[.slice Ax nx cx, .slice Ay ny cy] wx (DigV wx (x * y)) := fun x y wx Ax nx cx lx Ay ny cy ly fx fy sx sy Nx Ny => by
      have h1 := Nx.l256 fx sx.len
      have h2 := Ny.l256 fy sy.len
      have t := rmul_c _ _ _ _ _ _ _ _ wx _ sx sy (Nat.le_refl _) Nx.dig Ny.dig (by omega) (by omega)
      rwa [Nx.val_, Ny.val_] at t
    have kc : ∀ wx Ax nx cx lx Ay ny cy ly, Sl wx wx.heap.size .i64 Ax nx cx lx → Sl wx wx.heap.size .i64 Ay ny cy ly → Num 256 lx (a * d) → Num 256 ly (c * b) → Calls Try.prog 91 #[.slice Ax nx cx, .slice Ay ny cy] wx fun e w' => e = .returned (.int .i64 z) ∧ Below wx.heap.size wx w' := fun wx Ax nx cx lx Ay ny cy ly sx sy Nx Ny => by
      have t := rcompare_c _ _ _ _ _ _ _ _ _ _ wx _ sx sy Nx Ny
      rw [hz2] at t
      exact t.mono fun _ _ ⟨h, q, hq⟩ => ⟨h, hq ▸ below_drewN (Below.refl _ _) q⟩
    have keep : ∀ wx, Below w4.heap.size w4 wx → wx.cell? ⟨w.heap.size, 0, none⟩ = some (.slice f.A f.n f.c) ∧ wx.cell? ⟨w.heap.size, 1, none⟩ = some (.slice f.A' f.n' f.c') ∧ wx.cell? ⟨w.heap.size + 1, 0, none⟩ = some (.slice g.A g.n g.c) ∧ wx.cell? ⟨w.heap.size + 1, 1, none⟩ = some (.slice g.A' g.n' g.c') := fun wx hbx =>
      ⟨cells_keep F0 hbx, cells_keep F1 hbx, cells_keep G0 hbx, cells_keep G1 hbx⟩
    have K1 := hide k1
    have K2 := hide k2
    have K3 := hide k3
    have K4 := hide k4
    have KM := hide km
    have KC := hide kc
    have KB := hide keep
    have HZ := hide hz
    clear k1 k2 k3 k4 km kc keep hz hz2 ha hbb hc hd hf4 hg4
    have hb44 := Below.refl w4.heap.size w4
    go_wp2
    go_region_held3 (fun wx => wx.cell? ⟨w.heap.size, 0, none⟩ = some (.slice f.A f.n f.c) ∧ wx.cell? ⟨w.heap.size, 1, none⟩ = some (.slice f.A' f.n' f.c') ∧ wx.cell? ⟨w.heap.size + 1, 0, none⟩ = some (.slice g.A g.n g.c) ∧ wx.cell? ⟨w.heap.size + 1, 1, none⟩ = some (.slice g.A' g.n' g.c'))
      (first | exact KB.out _ hb44.drew | exact KB.out _ hW1 | exact KB.out _ hW2 | exact KB.out _ hW3 | exact KB.out _ hW4 | exact KB.out _ hW5 | exact KB.out _ hW6 | exact KB.out _ hW7 | fail)
      (first
        | (go_at_call_of 83 (Value.slice f.A f.n f.c); refine (K1.out _ (by first | exact hb44.drew | exact hW1 | exact hW2 | exact hW3 | exact hW4 | exact hW5 | exact hW6)).mono ?_; rintro e wz ⟨A1, n1, c1, l1, rfl, s1, N1, hbz, _⟩; have hW1 : Below w4.heap.size w4 wz := Go.Below.step (by first | exact hb44.drew | exact hW1 | exact hW2 | exact hW3 | exact hW4 | exact hW5 | exact hW6) hbz (Nat.le_refl _); (try replace s2 := (s2.below hbz).mono hbz.size); (try replace s3 := (s3.below hbz).mono hbz.size); (try replace s4 := (s4.below hbz).mono hbz.size); (try replace s5 := (s5.below hbz).mono hbz.size); (try replace s6 := (s6.below hbz).mono hbz.size); clear hbz)
        | (go_at_call_of 83 (Value.slice f.A' f.n' f.c'); refine (K2.out _ (by first | exact hb44.drew | exact hW1 | exact hW2 | exact hW3 | exact hW4 | exact hW5 | exact hW6)).mono ?_; rintro e wz ⟨A2, n2, c2, l2, rfl, s2, N2, hbz, _⟩; have hW2 : Below w4.heap.size w4 wz := Go.Below.step (by first | exact hb44.drew | exact hW1 | exact hW2 | exact hW3 | exact hW4 | exact hW5 | exact hW6) hbz (Nat.le_refl _); (try replace s1 := (s1.below hbz).mono hbz.size); (try replace s3 := (s3.below hbz).mono hbz.size); (try replace s4 := (s4.below hbz).mono hbz.size); (try replace s5 := (s5.below hbz).mono hbz.size); (try replace s6 := (s6.below hbz).mono hbz.size); clear hbz)
        | (go_at_call_of 83 (Value.slice g.A g.n g.c); refine (K3.out _ (by first | exact hb44.drew | exact hW1 | exact hW2 | exact hW3 | exact hW4 | exact hW5 | exact hW6)).mono ?_; rintro e wz ⟨A3, n3, c3, l3, rfl, s3, N3, hbz, _⟩; have hW3 : Below w4.heap.size w4 wz := Go.Below.step (by first | exact hb44.drew | exact hW1 | exact hW2 | exact hW3 | exact hW4 | exact hW5 | exact hW6) hbz (Nat.le_refl _); (try replace s1 := (s1.below hbz).mono hbz.size); (try replace s2 := (s2.below hbz).mono hbz.size); (try replace s4 := (s4.below hbz).mono hbz.size); (try replace s5 := (s5.below hbz).mono hbz.size); (try replace s6 := (s6.below hbz).mono hbz.size); clear hbz)
        | (go_at_call_of 83 (Value.slice g.A' g.n' g.c'); refine (K4.out _ (by first | exact hb44.drew | exact hW1 | exact hW2 | exact hW3 | exact hW4 | exact hW5 | exact hW6)).mono ?_; rintro e wz ⟨A4, n4, c4, l4, rfl, s4, N4, hbz, _⟩; have hW4 : Below w4.heap.size w4 wz := Go.Below.step (by first | exact hb44.drew | exact hW1 | exact hW2 | exact hW3 | exact hW4 | exact hW5 | exact hW6) hbz (Nat.le_refl _); (try replace s1 := (s1.below hbz).mono hbz.size); (try replace s2 := (s2.below hbz).mono hbz.size); (try replace s3 := (s3.below hbz).mono hbz.size); (try replace s5 := (s5.below hbz).mono hbz.size); (try replace s6 := (s6.below hbz).mono hbz.size); clear hbz)
        | (go_at_call_of 92 (Value.slice A1 n1 c1); refine (KM.out a d _ _ _ _ l1 _ _ _ l4 ffn fgd s1 s4 N1 N4).mono ?_; rintro e wz ⟨A5, n5, c5, l5, rfl, s5, N5, hbz, _⟩; have hW5 : Below w4.heap.size w4 wz := Go.Below.step (by first | exact hb44.drew | exact hW1 | exact hW2 | exact hW3 | exact hW4 | exact hW5 | exact hW6) hbz (Nat.le_refl _); clear s1 s4; (try replace s2 := (s2.below hbz).mono hbz.size); (try replace s3 := (s3.below hbz).mono hbz.size); (try replace s6 := (s6.below hbz).mono hbz.size); clear hbz)
        | (go_at_call_of 92 (Value.slice A3 n3 c3); refine (KM.out c b _ _ _ _ l3 _ _ _ l2 fgn ffd s3 s2 N3 N2).mono ?_; rintro e wz ⟨A6, n6, c6, l6, rfl, s6, N6, hbz, _⟩; have hW6 : Below w4.heap.size w4 wz := Go.Below.step (by first | exact hb44.drew | exact hW1 | exact hW2 | exact hW3 | exact hW4 | exact hW5 | exact hW6) hbz (Nat.le_refl _); clear s3 s2; (try replace s1 := (s1.below hbz).mono hbz.size); (try replace s4 := (s4.below hbz).mono hbz.size); (try replace s5 := (s5.below hbz).mono hbz.size); clear hbz)
        | (go_at_call 91; refine (KC.out _ _ _ _ l5 _ _ _ l6 s5 s6 N5 N6).mono ?_; rintro e wz ⟨rfl, hbz⟩; have hW7 : Below w4.heap.size w4 wz := Go.Below.step (by first | exact hb44.drew | exact hW1 | exact hW2 | exact hW3 | exact hW4 | exact hW5 | exact hW6) hbz (Nat.le_refl _); clear hbz s5 s6)
        | fail)
    all_goals
      clear N1 N2 N3 N4 N5 N6
      go_wp2
      go_ret2
      exact ⟨by rw [HZ.out, HE.out]; rfl, hw4.trans (hW7.mono hw4.size)⟩
  · have h0' : (er != 0) = true := by rw [bne_iff_ne]; exact h0
    have hz : fcmpV f g = 0 := by unfold fcmpV; rw [HE.out, if_neg h0]
    go_wp2
    go_ret2
    exact ⟨by rw [HE.out, hz]; rfl, hw4⟩
end Go.Proofs.Ytgilhkdmgbeieaa
