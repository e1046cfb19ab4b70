/- Contracts of exact's cross, FracCompare. -/
import Derived.Test.YtgilhkdmgbeieaaNa
namespace Go.Proofs.Ytgilhkdmgbeieaa
open Go.RowKit

/-- Two numbers in memory. -/
def TwoV (w : World) (N M : Nat) (e : Ending) (w' : World) : Prop :=
  ∃ A n c l A' n' c' l', e = .returned (.tuple #[.slice A n c, .slice A' n' c']) ∧ Sl w' w'.heap.size .u32 A n c l ∧ Sl w' w'.heap.size .u32 A' n' c' l' ∧ Num 4294967296 l N ∧ Num 4294967296 l' M ∧ Below w.heap.size w w'

theorem prod_len {l : List Nat} {x y n : Nat} (h : Num 4294967296 l (x * y)) (hx : Fits x) (hy : Fits y) (hl : l.length = n) : n ≤ 128 := by
  rw [← hl]
  refine (h.length_le (by omega) 128).2 ?_
  have e3 := Nat.mul_lt_mul'' hx hy
  rwa [← Nat.pow_add] at e3

set_option maxRecDepth 100000 in
set_option maxHeartbeats 3200000 in
theorem cross_c (f g : FA) (w : World) (B : Nat) (hf : f.Rd w B) (hg : g.Rd w B) (hB : B ≤ w.heap.size) (h1 : f.n ≤ 64) (h2 : f.n' ≤ 64) (h3 : g.n ≤ 64) (h4 : g.n' ≤ 64) :
    Calls Try.prog 79 #[.agg #[.slice f.A f.n f.c, .slice f.A' f.n' f.c'], .agg #[.slice g.A g.n g.c, .slice g.A' g.n' g.c']] w
      (TwoV w (val 4294967296 f.l * val 4294967296 g.l') (val 4294967296 g.l * val 4294967296 f.l')) := by
  have hF := (Blk.new w 25 #[.slice f.A f.n f.c, .slice f.A' f.n' f.c']).alloc (.cells #[.slice g.A g.n g.c, .slice g.A' g.n' g.c'] 25)
  have hG := (Blk.new (w.alloc (.cells #[.slice f.A f.n f.c, .slice f.A' f.n' f.c'] 25)) 25 #[.slice g.A g.n g.c, .slice g.A' g.n' g.c'])
  have hb := ((Below.refl w.heap.size w).alloc (Nat.le_refl _) (.cells #[.slice f.A f.n f.c, .slice f.A' f.n' f.c'] 25)).alloc (by simp) (.cells #[.slice g.A g.n g.c, .slice g.A' g.n' g.c'] 25)
  have hs1 : ((w.alloc (.cells #[.slice f.A f.n f.c, .slice f.A' f.n' f.c'] 25)).alloc (.cells #[.slice g.A g.n g.c, .slice g.A' g.n' g.c'] 25)).heap.size = w.heap.size + 2 := by simp
  go_enter Try.func79, Try.ntmps79
  go_wp2
  generalize ((w.alloc (.cells #[.slice f.A f.n f.c, .slice f.A' f.n' f.c'] 25)).alloc (.cells #[.slice g.A g.n g.c, .slice g.A' g.n' g.c'] 25)) = w1 at *
  simp only [World.size_alloc] at hG
  have hf1 := (hf.below (hb.mono hB)).mono (show B ≤ w1.heap.size by omega)
  have hg1 := (hg.below (hb.mono hB)).mono (show B ≤ w1.heap.size by omega)
  have hc0 := hF.cell 0
  have hc1 := hF.cell 1
  have hd0 := hG.cell 0
  have hd1 := hG.cell 1
  simp at hc0 hc1 hd0 hd1
  have key1 : ∀ wx, Below w1.heap.size w1 wx → Calls Try.prog 89 #[.slice f.A f.n f.c, .slice g.A' g.n' g.c'] wx (NatV wx (val 4294967296 f.l * val 4294967296 g.l')) := fun wx hbx =>
    (times_c _ _ _ _ _ _ _ _ wx _ (hf1.below hbx).num (hg1.below hbx).den hbx.size hf1.dn hg1.dd (by omega) (by omega)).mono fun _ _ h => h.v
  have key2 : ∀ wx, Below w1.heap.size w1 wx → Calls Try.prog 89 #[.slice g.A g.n g.c, .slice f.A' f.n' f.c'] wx (NatV wx (val 4294967296 g.l * val 4294967296 f.l')) := fun wx hbx =>
    (times_c _ _ _ _ _ _ _ _ wx _ (hg1.below hbx).num (hf1.below hbx).den hbx.size hg1.dn hf1.dd (by omega) (by omega)).mono fun _ _ h => h.v
  have K1 := hide key1
  have K2 := hide key2
  clear key1 key2 hf1 hg1 hf hg hF hG
  have keep : ∀ wx wy : World, (wx.cell? ⟨w.heap.size, 0, none⟩ = some (.slice f.A f.n f.c) ∧ wx.cell? ⟨w.heap.size, 1, none⟩ = some (.slice f.A' f.n' f.c') ∧ wx.cell? ⟨w.heap.size + 1, 0, none⟩ = some (.slice g.A g.n g.c) ∧ wx.cell? ⟨w.heap.size + 1, 1, none⟩ = some (.slice g.A' g.n' g.c') ∧ Below w1.heap.size w1 wx) → Below wx.heap.size wx wy →
      wy.cell? ⟨w.heap.size, 0, none⟩ = some (.slice f.A f.n f.c) ∧ wy.cell? ⟨w.heap.size, 1, none⟩ = some (.slice f.A' f.n' f.c') ∧ wy.cell? ⟨w.heap.size + 1, 0, none⟩ = some (.slice g.A g.n g.c) ∧ wy.cell? ⟨w.heap.size + 1, 1, none⟩ = some (.slice g.A' g.n' g.c') ∧ Below w1.heap.size w1 wy := fun wx wy ⟨h1, h2, h3, h4, h5⟩ h6 => by
    have := h5.size
    exact ⟨(h6.cell (p := ⟨w.heap.size, 0, none⟩) (by show w.heap.size < _; omega)).trans h1, (h6.cell (p := ⟨w.heap.size, 1, none⟩) (by show w.heap.size < _; omega)).trans h2,
      (h6.cell (p := ⟨w.heap.size + 1, 0, none⟩) (by show w.heap.size + 1 < _; omega)).trans h3, (h6.cell (p := ⟨w.heap.size + 1, 1, none⟩) (by show w.heap.size + 1 < _; omega)).trans h4, h5.trans (h6.mono this)⟩
  have KP := hide keep
  clear keep
  have hb11 := Below.refl w1.heap.size w1
  go_region_held3 (fun wx => wx.cell? ⟨w.heap.size, 0, none⟩ = some (.slice f.A f.n f.c) ∧ wx.cell? ⟨w.heap.size, 1, none⟩ = some (.slice f.A' f.n' f.c') ∧ wx.cell? ⟨w.heap.size + 1, 0, none⟩ = some (.slice g.A g.n g.c) ∧ wx.cell? ⟨w.heap.size + 1, 1, none⟩ = some (.slice g.A' g.n' g.c') ∧ Below w1.heap.size w1 wx)
    (first | exact ⟨hc0, hc1, hd0, hd1, hb11.drew⟩ | exact KP.out _ _ (by assumption) hbz1 | exact KP.out _ _ (by assumption) hbz2 | exact KP.out _ _ ⟨by assumption, by assumption, by assumption, by assumption, by assumption⟩ hbz1 | exact KP.out _ _ ⟨by assumption, by assumption, by assumption, by assumption, by assumption⟩ hbz2)
    (first
      | (go_at_call_of 89 (Value.slice f.A f.n f.c); refine (K1.out _ ?_).mono ?_; (first | assumption | exact And.right (And.right (And.right (And.right (by assumption))))); rintro e wz ⟨A1, n1, c1, l1, rfl, s1, N1, hbz1⟩)
      | (go_at_call_of 89 (Value.slice g.A g.n g.c); refine (K2.out _ ?_).mono ?_; (first | assumption | exact And.right (And.right (And.right (And.right (by assumption))))); rintro e wz ⟨A2, n2, c2, l2, rfl, s2, N2, hbz2⟩))
  all_goals
    go_wp2
    go_ret2
    have hq : wz.cell? ⟨w.heap.size, 0, none⟩ = some (.slice f.A f.n f.c) ∧ wz.cell? ⟨w.heap.size, 1, none⟩ = some (.slice f.A' f.n' f.c') ∧ wz.cell? ⟨w.heap.size + 1, 0, none⟩ = some (.slice g.A g.n g.c) ∧ wz.cell? ⟨w.heap.size + 1, 1, none⟩ = some (.slice g.A' g.n' g.c') ∧ Below w1.heap.size w1 wz := by assumption
    have hs9 := hb.size
    exact ⟨_, _, _, l1, _, _, _, l2, rfl, by first | exact s1 | exact (s1.below hbz2).mono hbz2.size, by first | exact s2 | exact (s2.below hbz1).mono hbz1.size, N1, N2, hb.trans (hq.2.2.2.2.mono hs9)⟩

theorem errV_two {f g : FA} (h : errV [f, g] = 0) : f.n ≤ 64 ∧ f.n' ≤ 64 ∧ 0 < val 4294967296 f.l' ∧ g.n ≤ 64 ∧ g.n' ≤ 64 ∧ 0 < val 4294967296 g.l' := by
  unfold errV at h
  split at h
  · simp at h
  · split at h
    · simp at h
    · rename_i h1 h2
      simp [FA.long, FA.zero] at h1 h2
      omega

def fcmpV (f g : FA) : Int := if errV [f, g] = 0 then ordI (val 4294967296 f.l * val 4294967296 g.l') (val 4294967296 g.l * val 4294967296 f.l') else 0

set_option maxRecDepth 100000 in
set_option maxHeartbeats 3200000 in
/-- 'FracCompare'. -/
theorem xfcompare_c (f g : FA) (w : World) (B : Nat) (hf : f.Rd w B) (hg : g.Rd w B) (hB : B ≤ w.heap.size) :
    Calls Try.prog 22 #[.agg #[.slice f.A f.n f.c, .slice f.A' f.n' f.c'], .agg #[.slice g.A g.n g.c, .slice g.A' g.n' g.c']] w
      fun e w' => e = .returned (.tuple #[.int .i64 (fcmpV f g), .int .i64 (errV [f, g])]) ∧ Below w.heap.size w w' := by
  have hF := ((Blk.new w 25 #[.slice f.A f.n f.c, .slice f.A' f.n' f.c']).alloc (.cells #[.slice g.A g.n g.c, .slice g.A' g.n' g.c'] 25)).alloc (.cells #[.slice f.A f.n f.c, .slice f.A' f.n' f.c', .slice g.A g.n g.c, .slice g.A' g.n' g.c'] 25)
  have hG := (Blk.new (w.alloc (.cells #[.slice f.A f.n f.c, .slice f.A' f.n' f.c'] 25)) 25 #[.slice g.A g.n g.c, .slice g.A' g.n' g.c']).alloc (.cells #[.slice f.A f.n f.c, .slice f.A' f.n' f.c', .slice g.A g.n g.c, .slice g.A' g.n' g.c'] 25)
  have hL := (Blk.new ((w.alloc (.cells #[.slice f.A f.n f.c, .slice f.A' f.n' f.c'] 25)).alloc (.cells #[.slice g.A g.n g.c, .slice g.A' g.n' g.c'] 25)) 25 #[.slice f.A f.n f.c, .slice f.A' f.n' f.c', .slice g.A g.n g.c, .slice g.A' g.n' g.c'])
  have hb := (((Below.refl w.heap.size w).alloc (Nat.le_refl _) (.cells #[.slice f.A f.n f.c, .slice f.A' f.n' f.c'] 25)).alloc (by simp) (.cells #[.slice g.A g.n g.c, .slice g.A' g.n' g.c'] 25)).alloc (by simp; omega) (.cells #[.slice f.A f.n f.c, .slice f.A' f.n' f.c', .slice g.A g.n g.c, .slice g.A' g.n' g.c'] 25)
  have hs1 : (((w.alloc (.cells #[.slice f.A f.n f.c, .slice f.A' f.n' f.c'] 25)).alloc (.cells #[.slice g.A g.n g.c, .slice g.A' g.n' g.c'] 25)).alloc (.cells #[.slice f.A f.n f.c, .slice f.A' f.n' f.c', .slice g.A g.n g.c, .slice g.A' g.n' g.c'] 25)).heap.size = w.heap.size + 3 := by simp
  go_enter Try.func22, Try.ntmps22
  go_wp2_with fail
  generalize (((w.alloc (.cells #[.slice f.A f.n f.c, .slice f.A' f.n' f.c'] 25)).alloc (.cells #[.slice g.A g.n g.c, .slice g.A' g.n' g.c'] 25)).alloc (.cells #[.slice f.A f.n f.c, .slice f.A' f.n' f.c', .slice g.A g.n g.c, .slice g.A' g.n' g.c'] 25)) = w1 at *
  simp only [World.size_alloc] at hG hL
  have hf1 := (hf.below (hb.mono hB)).mono (show B ≤ w1.heap.size by omega)
  have hg1 := (hg.below (hb.mono hB)).mono (show B ≤ w1.heap.size by omega)
  have t1 := valid_c (w.heap.size + 1 + 1) 2 [f, g] w1 w1.heap.size (fun i h => by
      have h2 : i = 0 ∨ i = 1 := by simp at h; omega
      rcases h2 with rfl | rfl
      · exact ⟨by rw [hL.cell]; rfl, by rw [hL.cell]; rfl⟩
      · exact ⟨by rw [hL.cell]; rfl, by rw [hL.cell]; rfl⟩) (by omega) (fun f' h => by
      have h2 : f' = f ∨ f' = g := by simpa using h
      rcases h2 with rfl | rfl
      · exact hf1
      · exact hg1) (Nat.le_refl _) (by simp)
  refine t1.mono ?_
  rintro e w2 ⟨rfl, hb2⟩
  clear t1 hL
  have hF2 := hF.keep hb2
  have hG2 := hG.keep hb2
  have hf2 := (hf1.below hb2).mono hb2.size
  have hg2 := (hg1.below hb2).mono hb2.size
  have hbw2 := hb.trans (hb2.mono (by omega))
  have hs2 := hb2.size
  clear hF hG hf1 hg1 hb hb2
  obtain ⟨er, her⟩ : ∃ er, errV [f, g] = er := ⟨_, rfl⟩
  have HE := hide her
  rw [her]
  clear her
  have hc0 := hF2.cell 0
  have hc1 := hF2.cell 1
  have hd0 := hG2.cell 0
  have hd1 := hG2.cell 1
  simp at hc0 hc1 hd0 hd1
  by_cases h0 : er = 0
  · subst h0
    obtain ⟨p1, p2, p3, p4, p5, p6⟩ := errV_two HE.out
    go_wp2_with fail
    refine (cross_c f g w2 _ hf2 hg2 (Nat.le_refl _) p1 p2 p4 p5).mono ?_
    rintro e w3 ⟨A1, n1, c1, l1, A2, n2, c2, l2, rfl, s1, s2, N1, N2, hb3⟩
    have t2 := order_c _ _ _ _ _ _ _ _ w3 _ s1 s2 N1.dig N2.dig
    rw [N1.val_, N2.val_] at t2
    go_wp2_with fail
    refine t2.mono ?_
    rintro e w4 ⟨rfl, q, rfl⟩
    go_wp2
    go_ret2
    exact ⟨by unfold fcmpV; rw [HE.out, if_pos rfl]; rfl, below_drewN (hbw2.trans (hb3.mono hbw2.size)) q⟩
  · have h0' : (er != 0) = true := by rw [bne_iff_ne]; exact h0
    go_wp2
    go_ret2
    exact ⟨by unfold fcmpV; rw [HE.out, if_neg h0]; rfl, hbw2⟩
end Go.Proofs.Ytgilhkdmgbeieaa
