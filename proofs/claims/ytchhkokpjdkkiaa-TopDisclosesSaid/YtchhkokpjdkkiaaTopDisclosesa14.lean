/- Contracts of exact's Bound. -/
import Derived.Test.YtchhkokpjdkkiaaTopDisclosesa13
import Derived.BigQuiet
namespace Go.Proofs.Ytchhkokpjdkkiaa.Ex
open Go.RowKit

/-- The bound: the search between low and high. -/
def bsN (p : Nat → Bool) (low high : Nat) : Nat :=
  if low < high then (if p ((low + high + 1) / 2) = true then bsN p ((low + high + 1) / 2) high else bsN p low ((low + high + 1) / 2 - 1)) else low
termination_by high - low
decreasing_by all_goals omega
theorem bsN_up {p : Nat → Bool} {low high : Nat} (h : low < high) (hp : p ((low + high + 1) / 2) = true) : bsN p low high = bsN p ((low + high + 1) / 2) high := by
  rw [bsN, if_pos h, if_pos hp]
theorem bsN_down {p : Nat → Bool} {low high : Nat} (h : low < high) (hp : p ((low + high + 1) / 2) = false) : bsN p low high = bsN p low ((low + high + 1) / 2 - 1) := by
  rw [bsN, if_pos h, if_neg (by simp [hp])]
theorem bsN_end {p : Nat → Bool} {low high : Nat} (h : ¬ low < high) : bsN p low high = low := by
  rw [bsN, if_neg h]
/-- Is so much bad not excluded? -/
def possN (T k s num den bad : Nat) : Bool := decide (num * Cn T k < Wn T bad k (s + 1) * den)
theorem ordI_pos {x y : Nat} : decide (ordI x y > 0) = decide (y < x) := by
  rcases Nat.lt_trichotomy x y with h | h | h
  · rw [ordI_lt h]; simp; omega
  · rw [ordI_eq h]; simp; omega
  · rw [ordI_gt h]; simp; exact h
theorem cells_keep {w w' : World} {p : Addr} {v : Value} (h : w.cell? p = some v) (hb : Below w.heap.size w w') : w'.cell? p = some v := by
  have hlt : p.block < w.heap.size := by
    rcases Nat.lt_or_ge p.block w.heap.size with h1 | h1
    · exact h1
    · exfalso
      unfold World.cell? at h
      rw [Array.getElem?_eq_none h1] at h
      simp at h
  exact (hb.cell hlt).trans h

set_option maxRecDepth 100000 in
set_option maxHeartbeats 3200000 in
theorem poss_c (T b k s num den : Nat) (g1 g2 g3 g4 g5 : Nat) (A : Option Addr) (n c : Nat) (l : List Nat) (A' : Option Addr) (n' c' : Nat) (l' : List Nat) (w : World) (hT : T ≤ 512) (hb : b ≤ T) (hk : k ≤ T) (hs : s ≤ k)
    (c1 : w.cell? ⟨g1, 0, none⟩ = some (.int .i64 T)) (c2 : w.cell? ⟨g2, 0, none⟩ = some (.int .i64 k)) (c3 : w.cell? ⟨g3, 0, none⟩ = some (.int .i64 s)) (c4 : w.cell? ⟨g4, 1, none⟩ = some (.slice A n c)) (c5 : w.cell? ⟨g5, 0, none⟩ = some (.slice A' n' c'))
    (h1 : Sl w w.heap.size .u32 A n c l) (hd : Digs 4294967296 l) (hv : val 4294967296 l = den) (hn : n ≤ 64) (h2 : Sl w w.heap.size .u32 A' n' c' l') (hd' : Num 4294967296 l' (num * Cn T k)) :
    Calls Try.prog 118 #[.int .i64 b, .pointer (some ⟨g1, 0, none⟩), .pointer (some ⟨g2, 0, none⟩), .pointer (some ⟨g3, 0, none⟩), .pointer (some ⟨g4, 0, none⟩), .pointer (some ⟨g5, 0, none⟩)] w fun e w' => e = .returned (.bool (possN T k s num den b)) ∧ Below w.heap.size w w' := by
  obtain ⟨z, hz, hzp⟩ : ∃ z : Int, ordI (Wn T b k (s + 1) * den) (num * Cn T k) = z ∧ possN T k s num den b = decide (z > 0) := ⟨_, rfl, ordI_pos.symm⟩
  rw [hzp]
  clear hzp
  have key1 : ∀ wx, Calls Try.prog 83 #[.int .i64 T, .int .i64 b, .int .i64 k, .int .i64 s] wx (NatV wx (Wn T b k (s + 1))) := fun wx => by
    have t := ways_c T b k s wx hT hb hk (by omega) (by omega)
    rwa [show ((s : Int) + 1).toNat = s + 1 by omega] at t
  have key2 : ∀ wx Ax nx cx lx, Below w.heap.size w wx → Sl wx wx.heap.size .u32 Ax nx cx lx → Num 4294967296 lx (Wn T b k (s + 1)) → Calls Try.prog 114 #[.slice Ax nx cx, .slice A n c] wx (NatV wx (Wn T b k (s + 1) * den)) := fun wx Ax nx cx lx hbx sx Nx => by
    have hlx := Nx.len_Wn (by omega) hT (by omega) sx.len
    have t := times_c _ _ _ _ _ _ _ _ wx _ sx ((h1.below hbx).mono hbx.size) (Nat.le_refl _) Nx.dig hd (by omega) (by omega)
    rw [Nx.val_, hv] at t
    exact t.mono fun _ _ h => h.v
  have key3 : ∀ wx Ax nx cx lx, Below w.heap.size w wx → Sl wx wx.heap.size .u32 Ax nx cx lx → Num 4294967296 lx (Wn T b k (s + 1) * den) → Calls Try.prog 117 #[.slice Ax nx cx, .slice A' n' c'] wx fun e w' => e = .returned (.int .i64 z) ∧ Below wx.heap.size wx w' := fun wx Ax nx cx lx hbx sx Nx => by
    have t := order_c _ _ _ _ _ _ _ _ wx _ sx ((h2.below hbx).mono hbx.size) Nx.dig hd'.dig
    rw [Nx.val_, hd'.val_, hz] at t
    exact t.mono fun _ _ ⟨h, q, hq⟩ => ⟨h, hq ▸ below_drewN (Below.refl _ _) q⟩
  have K1 := hide key1
  have K2 := hide key2
  have K3 := hide key3
  clear key1 key2 key3 h1 h2 hd hd' hv hz
  have keep : ∀ wx wy : World, (wx.cell? ⟨g1, 0, none⟩ = some (.int .i64 T) ∧ wx.cell? ⟨g2, 0, none⟩ = some (.int .i64 k) ∧ wx.cell? ⟨g3, 0, none⟩ = some (.int .i64 s) ∧ wx.cell? ⟨g4, 1, none⟩ = some (.slice A n c) ∧ wx.cell? ⟨g5, 0, none⟩ = some (.slice A' n' c') ∧ Below w.heap.size w wx) → Below wx.heap.size wx wy →
      wy.cell? ⟨g1, 0, none⟩ = some (.int .i64 T) ∧ wy.cell? ⟨g2, 0, none⟩ = some (.int .i64 k) ∧ wy.cell? ⟨g3, 0, none⟩ = some (.int .i64 s) ∧ wy.cell? ⟨g4, 1, none⟩ = some (.slice A n c) ∧ wy.cell? ⟨g5, 0, none⟩ = some (.slice A' n' c') ∧ Below w.heap.size w wy := fun wx wy ⟨h1, h2, h3, h4, h5, h6⟩ hb =>
    ⟨cells_keep h1 hb, cells_keep h2 hb, cells_keep h3 hb, cells_keep h4 hb, cells_keep h5 hb, h6.trans (hb.mono h6.size)⟩
  have KP := hide keep
  clear keep
  have hb0 := Below.refl w.heap.size w
  go_enter Try.func118, Try.ntmps118
  go_wp2
  go_region_held3 (fun wx => wx.cell? ⟨g1, 0, none⟩ = some (.int .i64 T) ∧ wx.cell? ⟨g2, 0, none⟩ = some (.int .i64 k) ∧ wx.cell? ⟨g3, 0, none⟩ = some (.int .i64 s) ∧ wx.cell? ⟨g4, 1, none⟩ = some (.slice A n c) ∧ wx.cell? ⟨g5, 0, none⟩ = some (.slice A' n' c') ∧ Below w.heap.size w wx)
    (first | exact ⟨c1, c2, c3, c4, c5, hb0.drew⟩ | exact KP.out _ _ (by assumption) hbz1 | exact KP.out _ _ (by assumption) hbz2 | exact KP.out _ _ (by assumption) hbz3)
    (first
      | (go_at_call 83; refine (K1.out _).mono ?_; rintro e wz ⟨A3, n3, c3', l3, rfl, s3, N3, hbz1⟩)
      | (go_at_call 114; refine (K2.out _ _ _ _ l3 (And.right (And.right (And.right (And.right (And.right (by assumption)))))) s3 N3).mono ?_; rintro e wz ⟨A4, n4, c4', l4, rfl, s4, N4, hbz2⟩)
      | (go_at_call 117; refine (K3.out _ _ _ _ l4 (And.right (And.right (And.right (And.right (And.right (by assumption)))))) s4 N4).mono ?_; rintro e wz ⟨rfl, hbz3⟩))
  all_goals
    have hq : wz.cell? ⟨g1, 0, none⟩ = some (.int .i64 T) ∧ wz.cell? ⟨g2, 0, none⟩ = some (.int .i64 k) ∧ wz.cell? ⟨g3, 0, none⟩ = some (.int .i64 s) ∧ wz.cell? ⟨g4, 1, none⟩ = some (.slice A n c) ∧ wz.cell? ⟨g5, 0, none⟩ = some (.slice A' n' c') ∧ Below w.heap.size w wz := by assumption
    go_wp2
    go_ret
    exact ⟨rfl, hq.2.2.2.2.2⟩

/-- What Bound returns. -/
def SBound (T k s : Int) (f : FA) (b err : Int) : Prop :=
  (errV [f] ≠ 0 ∧ b = 0 ∧ err = errV [f]) ∨
  (errV [f] = 0 ∧ ¬ (saneB T k = true ∧ 0 ≤ s ∧ s ≤ k) ∧ b = 0 ∧ err = 3) ∨
  (errV [f] = 0 ∧ (saneB T k = true ∧ 0 ≤ s ∧ s ≤ k) ∧ val 4294967296 f.l' ≤ val 4294967296 f.l ∧ b = 0 ∧ err = 2) ∨
  (errV [f] = 0 ∧ (saneB T k = true ∧ 0 ≤ s ∧ s ≤ k) ∧ val 4294967296 f.l < val 4294967296 f.l' ∧ b = (bsN (possN T.toNat k.toNat s.toNat (val 4294967296 f.l) (val 4294967296 f.l')) s.toNat T.toNat : Nat) ∧ err = 0)
theorem SBound.uniq {T k s : Int} {f : FA} {b b' e e' : Int} (h : SBound T k s f b e) (h' : SBound T k s f b' e') : b = b' ∧ e = e' := by
  rcases h with ⟨h1, h2, h3⟩ | ⟨h1, h2, h3, h4⟩ | ⟨h1, h2, h3, h4, h5⟩ | ⟨h1, h2, h3, h4, h5⟩ <;> rcases h' with ⟨k1, k2, k3⟩ | ⟨k1, k2, k3, k4⟩ | ⟨k1, k2, k3, k4, k5⟩ | ⟨k1, k2, k3, k4, k5⟩
  all_goals first
    | exact absurd h1 k1
    | exact absurd k1 h1
    | exact absurd h2 k2
    | exact absurd k2 h2
    | (exfalso; omega)
    | (subst_vars; exact ⟨rfl, rfl⟩)

theorem alloc_kept {w w' : World} {x : Value} {E : TypeId} (hb : Below (w.alloc (.cells #[x] E)).heap.size (w.alloc (.cells #[x] E)) w') : w'.cell? ⟨w.heap.size, 0, none⟩ = some x ∧ w'.frozen? ⟨w.heap.size, 0, none⟩ = false := by
  have h := (Blk.new w E #[x]).keep hb
  exact ⟨by rw [h.cell]; rfl, h.frozen 0⟩

theorem alloc_kept_drew {w w' : World} {x : Value} {E : TypeId} (hb : Below (w.alloc (.cells #[x] E)).drew.heap.size (w.alloc (.cells #[x] E)).drew w') : w'.cell? ⟨w.heap.size, 0, none⟩ = some x ∧ w'.frozen? ⟨w.heap.size, 0, none⟩ = false := by
  have h := (Blk.new w E #[x]).drew.keep hb
  exact ⟨by rw [h.cell]; rfl, h.frozen 0⟩

theorem frozen_keep {w w' : World} {p : Addr} {v : Value} (h : w.cell? p = some v) (hz : w.frozen? p = false) (hb : Below w.heap.size w w') : w'.frozen? p = false := by
  have hlt : p.block < w.heap.size := by
    rcases Nat.lt_or_ge p.block w.heap.size with h1 | h1
    · exact h1
    · exfalso
      unfold World.cell? at h
      rw [Array.getElem?_eq_none h1] at h
      simp at h
  have e := hb.block _ hlt
  unfold World.frozen? at hz ⊢
  rw [e]
  exact hz

theorem _root_.Go.Below.step {B : Nat} {w0 w1 w2 : World} (h : Below B w0 w1) (hb : Below w1.heap.size w1 w2) (hB : B ≤ w0.heap.size) : Below B w0 w2 := h.trans (hb.mono (Nat.le_trans hB h.size))

theorem five_allocs (w : World) (E F : TypeId) (v1 v2 v3 x y : Value) : ∃ w5 : World, ((((w.alloc (.cells #[v1] E)).alloc (.cells #[v2] E)).alloc (.cells #[v3] E)).alloc (.cells #[x, y] F)).alloc (.cells #[x, y] F) = w5 ∧
    Blk w5 w.heap.size E #[v1] ∧ Blk w5 (w.heap.size + 1) E #[v2] ∧ Blk w5 (w.heap.size + 1 + 1) E #[v3] ∧ Blk w5 (w.heap.size + 1 + 1 + 1) F #[x, y] ∧ Blk w5 (w.heap.size + 1 + 1 + 1 + 1) F #[x, y] ∧ Below w.heap.size w w5 ∧ w5.heap.size = w.heap.size + 5 := by
  refine ⟨_, rfl, ((((Blk.new w E #[v1]).alloc _).alloc _).alloc _).alloc _, ?_, ?_, ?_, ?_, ?_, by simp⟩
  · have h := (((Blk.new (w.alloc (.cells #[v1] E)) E #[v2]).alloc (.cells #[v3] E)).alloc (.cells #[x, y] F)).alloc (.cells #[x, y] F)
    simpa using h
  · have h := ((Blk.new ((w.alloc (.cells #[v1] E)).alloc (.cells #[v2] E)) E #[v3]).alloc (.cells #[x, y] F)).alloc (.cells #[x, y] F)
    simpa using h
  · have h := (Blk.new (((w.alloc (.cells #[v1] E)).alloc (.cells #[v2] E)).alloc (.cells #[v3] E)) F #[x, y]).alloc (.cells #[x, y] F)
    simpa using h
  · have h := Blk.new ((((w.alloc (.cells #[v1] E)).alloc (.cells #[v2] E)).alloc (.cells #[v3] E)).alloc (.cells #[x, y] F)) F #[x, y]
    simpa using h
  · exact (((((Below.refl _ _).alloc (Nat.le_refl _) _).alloc (by simp) _).alloc (by simp; omega) _).alloc (by simp; omega) _).alloc (by simp; omega) _

set_option maxRecDepth 100000 in
set_option maxHeartbeats 6400000 in
theorem xbound_c (T k s : Int) (f : FA) (w : World) (B : Nat) (hf : f.Rd w B) (hB : B ≤ w.heap.size) :
    Calls Try.prog 85 #[.int .i64 T, .int .i64 k, .int .i64 s, .agg #[.slice f.A f.n f.c, .slice f.A' f.n' f.c']] w
      fun e w' => ∃ b err, e = .returned (.tuple #[.int .i64 b, .int .i64 err]) ∧ SBound T k s f b err ∧ Below w.heap.size w w' := by
  have hmf : ∀ (fn : Fn) (first cap : Array Value) (w : World), (Instr.makeFunc fn first cap).run Try.prog w = .ok (.func fn first cap) w := fun _ _ _ _ => rfl
  go_enter Try.func85, Try.ntmps85
  go_wp2_with fail
  obtain ⟨w1, hw1, bT, bk, bs, bf, bl, hb, hsz⟩ := five_allocs w 3 131 (.int .i64 T) (.int .i64 k) (.int .i64 s) (.slice f.A f.n f.c) (.slice f.A' f.n' f.c')
  rw [hw1]
  clear hw1
  have hf1 := (hf.below (hb.mono hB)).mono (show B ≤ w1.heap.size by omega)
  have t1 := valid_c (w.heap.size + 1 + 1 + 1 + 1) 1 [f] w1 w1.heap.size (fun i h => by
      obtain rfl : i = 0 := by simpa using h
      exact ⟨by rw [bl.cell]; rfl, by rw [bl.cell]; rfl⟩) (by omega) (fun f' h => by
      obtain rfl : f' = f := by simpa using h
      exact hf1) (Nat.le_refl _) (by simp)
  refine t1.mono ?_
  rintro e w2 ⟨rfl, hb2⟩
  clear t1 bl
  have cT := (bT.keep hb2).cell 0
  have ck := (bk.keep hb2).cell 0
  have cs := (bs.keep hb2).cell 0
  have cn := (bf.keep hb2).cell 0
  have cd := (bf.keep hb2).cell 1
  simp at cT ck cs cn cd
  have hf2 := (hf1.below hb2).mono hb2.size
  have hbw2 := hb.trans (hb2.mono (by omega))
  have hs2 := hb2.size
  clear bT bk bs bf hf1 hb hb2
  obtain ⟨er, her⟩ : ∃ er, errV [f] = er := ⟨_, rfl⟩
  have HE := hide her
  rw [her]
  clear her
  by_cases h0 : er = 0
  · subst h0
    obtain ⟨p1, p2, p3⟩ := errV_one HE.out
    by_cases hsan : saneB T k = true
    · obtain ⟨hT0, hT1, hk0, hk1⟩ := saneB_true.1 hsan
      obtain ⟨T, rfl⟩ := Int.eq_ofNat_of_zero_le hT0
      obtain ⟨k, rfl⟩ := Int.eq_ofNat_of_zero_le hk0
      have ts := sane_c T k w2
      rw [hsan] at ts
      go_wp2_with fail
      refine ts.mono ?_
      rintro e w' ⟨rfl, rfl⟩
      clear ts
      by_cases hs0 : s < 0
      · go_wp2
        go_ret2
        exact ⟨_, _, rfl, .inr (.inl ⟨HE.out, by omega, rfl, rfl⟩), hbw2⟩
      · obtain ⟨s, rfl⟩ := Int.eq_ofNat_of_zero_le (show 0 ≤ s by omega)
        by_cases hsk : (k : Int) < s
        · go_wp2
          go_ret2
          exact ⟨_, _, rfl, .inr (.inl ⟨HE.out, by omega, rfl, rfl⟩), hbw2⟩
        · have t2 := order_c _ _ _ _ _ _ _ _ w2 _ hf2.num hf2.den hf2.dn hf2.dd
          by_cases hle : val 4294967296 f.l' ≤ val 4294967296 f.l
          · obtain ⟨z, hz, hz0⟩ : ∃ z, ordI (val 4294967296 f.l) (val 4294967296 f.l') = z ∧ 0 ≤ z := ⟨_, rfl, by
              unfold ordI
              rw [if_neg (by omega)]
              split <;> omega⟩
            rw [hz] at t2
            clear hz
            go_wp2_with fail
            refine t2.mono ?_
            rintro e w3 ⟨rfl, q, rfl⟩
            go_wp2
            go_ret2
            exact ⟨_, _, rfl, .inr (.inr (.inl ⟨HE.out, ⟨hsan, by omega, by omega⟩, hle, rfl, rfl⟩)), below_drewN hbw2 q⟩
          · rw [ordI_lt (by omega)] at t2
            go_wp2_with fail
            refine t2.mono ?_
            rintro e w3' ⟨rfl, q, hq⟩
            have hb3 : Below w2.heap.size w2 w3' := hq ▸ below_drewN (Below.refl _ _) q
            clear t2 hq
            obtain ⟨w3, rfl⟩ : ∃ w3 : World, w3 = w3' := ⟨_, rfl⟩
            have cT3 := cells_keep cT hb3
            have ck3 := cells_keep ck hb3
            have cs3 := cells_keep cs hb3
            have cn3 := cells_keep cn hb3
            have cd3 := cells_keep cd hb3
            have hf3 := (hf2.below hb3).mono hb3.size
            have hbw3 := hbw2.trans (hb3.mono hbw2.size)
            have hs3 := hb3.size
            clear cT ck cs cn cd hf2 hbw2 hb3
            obtain ⟨num, hnum⟩ : ∃ num, val 4294967296 f.l = num := ⟨_, rfl⟩
            obtain ⟨den, hden⟩ : ∃ den, val 4294967296 f.l' = den := ⟨_, rfl⟩
            have key1 : ∀ wx, Calls Try.prog 84 #[.int .i64 T, .int .i64 k] wx (NatV wx (Cn T k)) := fun wx => by
              have t := choose_c T k wx (by omega) (by omega) (by omega)
              rwa [Ci_nat] at t
            have key2 : ∀ wx Ax nx cx lx, Below w3.heap.size w3 wx → Sl wx wx.heap.size .u32 Ax nx cx lx → Num 4294967296 lx (Cn T k) → Calls Try.prog 114 #[.slice f.A f.n f.c, .slice Ax nx cx] wx (NatR wx (num * Cn T k)) := fun wx Ax nx cx lx hbx sx Nx => by
              have hlx := Nx.len_Cn (by omega) sx.len
              have t := times_c _ _ _ _ _ _ _ _ wx _ ((hf3.num.below hbx).mono hbx.size) sx (Nat.le_refl _) hf3.dn Nx.dig (by omega) (by omega)
              rw [Nx.val_, hnum] at t
              exact t
            have K1 := hide key1
            have K2 := hide key2
            have HNUM := hide hnum
            have HDEN := hide hden
            have keep : ∀ wx : World, Below w3.heap.size w3 wx → wx.cell? ⟨w.heap.size, 0, none⟩ = some (.int .i64 T) ∧ wx.cell? ⟨w.heap.size + 1, 0, none⟩ = some (.int .i64 k) ∧ wx.cell? ⟨w.heap.size + 1 + 1, 0, none⟩ = some (.int .i64 s) ∧ wx.cell? ⟨w.heap.size + 1 + 1 + 1, 0, none⟩ = some (.slice f.A f.n f.c) ∧ wx.cell? ⟨w.heap.size + 1 + 1 + 1, 1, none⟩ = some (.slice f.A' f.n' f.c') ∧ Below w3.heap.size w3 wx := fun wx hb =>
              ⟨cells_keep cT3 hb, cells_keep ck3 hb, cells_keep cs3 hb, cells_keep cn3 hb, cells_keep cd3 hb, hb⟩
            have KB := hide keep
            clear key1 key2 keep hnum hden
            have hb33 := Below.refl w3.heap.size w3
            go_wp2
            go_region_held3 (fun wx => wx.cell? ⟨w.heap.size, 0, none⟩ = some (.int .i64 T) ∧ wx.cell? ⟨w.heap.size + 1, 0, none⟩ = some (.int .i64 k) ∧ wx.cell? ⟨w.heap.size + 1 + 1, 0, none⟩ = some (.int .i64 s) ∧ wx.cell? ⟨w.heap.size + 1 + 1 + 1, 0, none⟩ = some (.slice f.A f.n f.c) ∧ wx.cell? ⟨w.heap.size + 1 + 1 + 1, 1, none⟩ = some (.slice f.A' f.n' f.c') ∧ Below w3.heap.size w3 wx)
              (first | exact KB.out _ hb33.drew | exact KB.out _ (hb33.drew.alloc (by simp) _) | exact KB.out _ hW1 | exact KB.out _ hW2 | exact KB.out _ (hW1.alloc (by omega) _) | exact KB.out _ (hW2.alloc (by omega) _) | exact KB.out _ (hW2.setCell (by first | exact Nat.le_refl _ | exact hz1) _) | fail)
              (first
                | (go_at_call 84; refine (K1.out _).mono ?_; rintro e wy ⟨A3, n3, c3, l3, rfl, s3, N3, hbz1⟩; have hW1 : Below w3.heap.size w3 wy := Go.Below.step (And.right (And.right (And.right (And.right (And.right (by assumption)))))) hbz1 (Nat.le_refl _); have hz1 := hW1.size; try (have hkk := alloc_kept_drew hbz1; have hka := hkk.1; have hkf := hkk.2; clear hkk))
                | (go_at_call 114; refine (K2.out _ _ _ _ l3 (And.right (And.right (And.right (And.right (And.right (by assumption)))))) (by first | exact s3 | exact (s3.below ((Below.refl _ _).alloc (Nat.le_refl _) _)).mono (by simp)) N3).mono ?_; rintro e wz ⟨g4, n4, c4, l4, rfl, o4, N4, hbz2⟩; have hW2 : Below w3.heap.size w3 wz := Go.Below.step (And.right (And.right (And.right (And.right (And.right (by assumption)))))) hbz2 (Nat.le_refl _); have hz2 := hW2.size; try (have hkk := alloc_kept hbz2; have hka := hkk.1; have hkf := hkk.2; clear hkk); try (have hka2 := cells_keep hka hbz2; have hkf2 := frozen_keep hka hkf hbz2)) | (have hka2 := cells_keep hka hbz2; have hkf2 := frozen_keep hka hkf hbz2; simp only [hka2, hkf2]) | fail)
            all_goals
              first
                | (
                  have c5 := World.cell?_setCell_same wz ⟨wy.heap.size, 0, none⟩ (.slice (some ⟨g4, 0, none⟩) n4 c4) hka
                  have s5 := (o4.far (p := ⟨wy.heap.size, 0, none⟩) (fun g h => by have := (o4.lt h).1; simp at this; show g ≠ wy.heap.size; omega) (.slice (some ⟨g4, 0, none⟩) n4 c4)).sl
                  obtain ⟨d1, d2, d3, d4, d5, d6⟩ := ‹_ ∧ _ ∧ _ ∧ _ ∧ _ ∧ _›
                  clear hka hkf
                  generalize wz.setCell ⟨wy.heap.size, 0, none⟩ (.slice (some ⟨g4, 0, none⟩) n4 c4) = W9 at *
                  obtain ⟨L, hL⟩ : ∃ L, L = wy.heap.size := ⟨_, rfl⟩
                  rw [← hL] at c5 ⊢
                  clear hL hW1 hW2 hz1 hz2 hbz1 hbz2 o4 s3 N3)
                | (
                  have c5 := World.cell?_setCell_same wz ⟨w3.heap.size, 0, none⟩ (.slice (some ⟨g4, 0, none⟩) n4 c4) hka2
                  have hz9 := hbz1.size
                  simp at hz9
                  have s5 := (o4.far (p := ⟨w3.heap.size, 0, none⟩) (fun g h => by have := (o4.lt h).1; show g ≠ w3.heap.size; omega) (.slice (some ⟨g4, 0, none⟩) n4 c4)).sl
                  obtain ⟨d1, d2, d3, d4, d5, d6⟩ := ‹_ ∧ _ ∧ _ ∧ _ ∧ _ ∧ _›
                  clear hka hkf hka2 hkf2 hz9
                  generalize wz.setCell ⟨w3.heap.size, 0, none⟩ (.slice (some ⟨g4, 0, none⟩) n4 c4) = W9 at *
                  obtain ⟨L, hL⟩ : ∃ L, L = w3.heap.size := ⟨_, rfl⟩
                  rw [← hL] at c5 ⊢
                  clear hL hW1 hW2 hz1 hz2 hbz1 hbz2 o4 s3 N3)
                | (
                  have c5 : (wz.alloc (.cells #[.slice (some ⟨g4, 0, none⟩) n4 c4] 129)).cell? ⟨wz.heap.size, 0, none⟩ = some (.slice (some ⟨g4, 0, none⟩) n4 c4) := by rw [(Blk.new _ _ _).cell]; rfl
                  have s5 := (o4.alloc (.cells #[.slice (some ⟨g4, 0, none⟩) n4 c4] 129)).sl
                  obtain ⟨d1, d2, d3, d4, d5, d6⟩ := ‹_ ∧ _ ∧ _ ∧ _ ∧ _ ∧ _›
                  generalize wz.alloc (.cells #[.slice (some ⟨g4, 0, none⟩) n4 c4] 129) = W9 at *
                  obtain ⟨L, hL⟩ : ∃ L, L = wz.heap.size := ⟨_, rfl⟩
                  rw [← hL] at c5 ⊢
                  clear hL hW1 hW2 hz1 hz2 hbz1 hbz2 o4 s3 N3)
            all_goals
              obtain ⟨P, hP⟩ : ∃ P : Nat → Bool, Hid (possN T k s num den = P) := ⟨_, rfl⟩
              have hbw9 := hbw3.trans (d6.mono hbw3.size)
              have hf9 := (hf3.below d6).mono d6.size
              have N5 : Num 4294967296 l4 (num * Cn T k) := N4
              have hs9 : s ≤ T := by omega
              have KPO : ∀ (wx : World) (m : Nat), Below W9.heap.size W9 wx → m ≤ T → Calls Try.prog 118 #[.int .i64 m, .pointer (some ⟨w.heap.size, 0, none⟩), .pointer (some ⟨w.heap.size + 1, 0, none⟩), .pointer (some ⟨w.heap.size + 1 + 1, 0, none⟩), .pointer (some ⟨w.heap.size + 1 + 1 + 1, 0, none⟩), .pointer (some ⟨L, 0, none⟩)] wx fun e w' => e = .returned (.bool (P m)) ∧ Below wx.heap.size wx w' := fun wx m hb hm => by
                rw [← hP.out]
                exact poss_c T m k s num den _ _ _ _ _ _ _ _ f.l' _ _ _ l4 wx (by omega) hm (by omega) (by omega) (cells_keep d1 hb) (cells_keep d2 hb) (cells_keep d3 hb) (cells_keep d5 hb) (cells_keep c5 hb) ((hf9.den.below hb).mono hb.size) hf9.dd HDEN.out p2 ((s5.below hb).mono hb.size) N5
              have KPH := hide KPO
              clear KPO N4 N5 s5 c5 hf9 hf3
              go_wp2
              go_quiet (fail)
              have hb0 := below_drewN (Below.refl W9.heap.size W9) nq
              go_wp2
              go_loopw [13, 14] (fun lv hv wr => ∃ lo hi : Nat, lv = .int .i64 lo ∧ hv = .int .i64 hi ∧ lo ≤ hi ∧ hi ≤ T ∧ Hid (bsN P lo hi = bsN P s T) ∧ Below W9.heap.size W9 wr) (fun lv hv _ => (intOf hv).toNat - (intOf lv).toNat)
              case atStart => exact ⟨s, T, rfl, rfl, hs9, Nat.le_refl _, rfl, hb0⟩
              case round =>
                obtain ⟨lo, hi, rfl, rfl, hlh, hhT, HBS, hbr⟩ := hrel
                by_cases hlt : lo < hi
                · obtain ⟨m, hm, hm1, hm2⟩ : ∃ m : Nat, (lo + hi + 1) / 2 = m ∧ lo < m ∧ m ≤ hi := ⟨_, rfl, by omega, by omega⟩
                  have HM := hide hm
                  have hmi : ((lo : Int) + hi + 1) / 2 = (m : Int) := by omega
                  have t3 := KPH.out wr m hbr (by omega)
                  clear hm
                  go_wp2_with fail
                  cases hPm : P m with
                  | true =>
                    rw [hPm] at t3
                    have HB2 : Hid (bsN P m hi = bsN P s T) := by
                      show _ = _
                      rw [← HBS.out, bsN_up hlt (by rw [HM.out]; exact hPm), HM.out]
                    refine t3.mono ?_
                    rintro e w4 ⟨rfl, hb4⟩
                    go_wp2
                    go_roundw
                    case rel => exact ⟨m, hi, by go_num, rfl, hm2, hhT, HB2, hbr.trans (hb4.mono hbr.size)⟩
                    case measure => simp [intOf] <;> omega
                  | false =>
                    rw [hPm] at t3
                    have HB2 : Hid (bsN P lo (m - 1) = bsN P s T) := by
                      show _ = _
                      rw [← HBS.out, bsN_down hlt (by rw [HM.out]; exact hPm), HM.out]
                    refine t3.mono ?_
                    rintro e w4 ⟨rfl, hb4⟩
                    go_wp2
                    go_roundw
                    case rel => exact ⟨lo, m - 1, rfl, by go_num, by omega, by omega, HB2, hbr.trans (hb4.mono hbr.size)⟩
                    case measure => simp [intOf] <;> omega
                · have hb9 := HBS.out
                  rw [bsN_end hlt] at hb9
                  go_wp2
                  go_ret2
                  refine ⟨_, _, rfl, .inr (.inr (.inr ⟨HE.out, ⟨hsan, by omega, by omega⟩, by omega, ?_, rfl⟩)), hbw9.trans (hbr.mono hbw9.size)⟩
                  rw [HNUM.out, HDEN.out]
                  show (lo : Int) = (bsN (possN T k s num den) s T : Nat)
                  rw [hP.out, ← hb9]
    · have hsan' : saneB T k = false := by simpa using hsan
      have ts := sane_c T k w2
      rw [hsan'] at ts
      go_wp2_with fail
      refine ts.mono ?_
      rintro e w' ⟨rfl, rfl⟩
      clear ts
      go_wp2
      go_ret2
      exact ⟨_, _, rfl, .inr (.inl ⟨HE.out, fun hh => hsan hh.1, rfl, rfl⟩), hbw2⟩
  · have h0' : (er != 0) = true := by rw [bne_iff_ne]; exact h0
    go_wp2
    go_ret2
    exact ⟨_, _, rfl, .inl ⟨by rw [HE.out]; exact h0, rfl, HE.out.symm⟩, hbw2⟩
end Go.Proofs.Ytchhkokpjdkkiaa.Ex
