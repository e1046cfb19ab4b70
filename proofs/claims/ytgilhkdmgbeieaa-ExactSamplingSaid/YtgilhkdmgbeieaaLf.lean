/- The walk of the law ExactSampling. -/
import Derived.Test.YtgilhkdmgbeieaaPc
import Derived.Test.YtgilhkdmgbeieaaPa
import Derived.Test.YtgilhkdmgbeieaaOb
namespace Go.Proofs.Ytgilhkdmgbeieaa
open Go.RowKit

set_option maxRecDepth 100000 in
set_option maxHeartbeats 3200000 in
theorem sampling_w (a1 a2 a3 : Nat) (seen : Int) (w : World) (h1 : a1 ≤ 255) (h2 : a2 ≤ 255) (h3 : a3 ≤ 255) (h4 : -128 ≤ seen) (h5 : seen ≤ 127) :
    Calls Try.prog 4 #[.int .u8 a1, .int .u8 a2, .int .u8 a3, .int .i8 seen] w fun e w' => e = .returned (.bool true) ∧ Below w.heap.size w w' := by
  obtain ⟨n, HN, hn⟩ : ∃ n : Nat, Hid (a1 % 12 = n) ∧ n ≤ 11 := ⟨_, rfl, by omega⟩
  obtain ⟨b, HB, hb⟩ : ∃ b : Nat, Hid (a2 % (n + 1) = b) ∧ b ≤ n := ⟨_, rfl, by have := Nat.mod_lt a2 (show 0 < n + 1 by omega); omega⟩
  obtain ⟨k, HK, hk⟩ : ∃ k : Nat, Hid (a3 % (n + 1) = k) ∧ k ≤ n := ⟨_, rfl, by have := Nat.mod_lt a3 (show 0 < n + 1 by omega); omega⟩
  have e1 : (a1 : Int) % 12 = (n : Int) := by have := HN.out; omega
  have e2 : (a2 : Int) % ((n : Int) + 1) = (b : Int) := by have := HB.out; rw [← this]; simp
  have e3 : (a3 : Int) % ((n : Int) + 1) = (k : Int) := by have := HK.out; rw [← this]; simp
  go_enter Try.func4, Try.ntmps4
  go_wp2_with fail
  rw [e1, e2, e3]
  clear e1 e2 e3
  obtain ⟨W, HW⟩ : ∃ W : Nat, Hid (Wn n b k (seen + 1).toNat = W) := ⟨_, rfl⟩
  obtain ⟨D, HD⟩ : ∃ D : Nat, Hid (Cn n k = D) := ⟨_, rfl⟩
  have t0 := samples_c n b k seen w hn hb hk (by omega) (by omega)
  have t1 := tail_ok n b k seen w (by omega) hb hk (by omega) (by omega)
  have hWD : W ≤ D := by rw [← HW.out, ← HD.out]; exact Wn_le_Cn hb
  have hD0 : 0 < D := by rw [← HD.out]; exact Cn_pos hk
  have hD1 : D ≤ 2048 := by rw [← HD.out]; exact Nat.le_trans (Cn_le n k) (Nat.le_trans (Nat.pow_le_pow_right (by omega) hn) (show 2 ^ 11 ≤ 2048 by decide))
  rw [HW.out, HD.out] at t0 t1
  clear HW HD HN HB HK
  refine t0.mono ?_
  rintro e w' ⟨rfl, rfl⟩
  clear t0
  go_wp2_with fail
  refine t1.mono ?_
  rintro e w1 ⟨f, rfl, hf, N1, N2, hl1, hl2, hb1⟩
  clear t1
  go_wp2
  have hX := Blk.new w1 25 #[.slice f.A f.n f.c, .slice f.A' f.n' f.c']
  have hb2 := (Below.refl w1.heap.size w1).alloc (Nat.le_refl _) (.cells #[.slice f.A f.n f.c, .slice f.A' f.n' f.c'] 25)
  have hs2 : w1.heap.size < (w1.alloc (.cells #[.slice f.A f.n f.c, .slice f.A' f.n' f.c'] 25)).heap.size := by simp
  generalize w1.alloc (.cells #[.slice f.A f.n f.c, .slice f.A' f.n' f.c'] 25) = w2 at *
  have hf2 := (hf.below hb2).mono hb2.size
  have hbw2 := hb1.trans (hb2.mono hb1.size)
  have hc0 := hX.cell 0
  have hc1 := hX.cell 1
  simp at hc0 hc1
  clear hb1 hb2 hX hf
  have hd0 : 0 < val 4294967296 f.l' := by rw [N2.val_]; exact gcd_div_pos hD0
  have key : ∀ wx (A3 : Option Addr) (n3 c3 : Nat) (l3 : List Nat) (A4 : Option Addr) (n4 c4 : Nat) (l4 : List Nat), Below w2.heap.size w2 wx → Sl wx wx.heap.size .u32 A3 n3 c3 l3 → Sl wx wx.heap.size .u32 A4 n4 c4 l4 → Num 4294967296 l3 W → Num 4294967296 l4 D →
      Calls Try.prog 22 #[.agg #[.slice f.A f.n f.c, .slice f.A' f.n' f.c'], .agg #[.slice A3 n3 c3, .slice A4 n4 c4]] wx fun e w' => e = .returned (.tuple #[.int .i64 0, .int .i64 0]) ∧ Below wx.heap.size wx w' := fun wx A3 n3 c3 l3 A4 n4 c4 l4 hbx s3 s4 N3 N4 => by
    have h3 : n3 ≤ 64 := by rw [← s3.len]; exact (N3.length_le (by omega) 64).2 (by omega)
    have h4 : n4 ≤ 64 := by rw [← s4.len]; exact (N4.length_le (by omega) 64).2 (by omega)
    have hE : errV [f, ⟨A3, n3, c3, l3, A4, n4, c4, l4⟩] = 0 := errV_ok hl1 hl2 hd0 h3 h4 (by show 0 < val 4294967296 l4; rw [N4.val_]; exact hD0)
    have t := xfcompare_c f ⟨A3, n3, c3, l3, A4, n4, c4, l4⟩ wx _ ((hf2.below hbx).mono hbx.size) ⟨s3, s4, N3.dig, N4.dig⟩ (Nat.le_refl _)
    have hv : fcmpV f ⟨A3, n3, c3, l3, A4, n4, c4, l4⟩ = 0 := by
      unfold fcmpV
      rw [if_pos hE]
      show ordI (val 4294967296 f.l * val 4294967296 l4) (val 4294967296 l3 * val 4294967296 f.l') = 0
      rw [N1.val_, N2.val_, N3.val_, N4.val_, red_cross1 hD0]
      exact ordI_eq rfl
    rw [hE, hv] at t
    exact t
  have K3 := hide key
  have of1 : ∀ wx, Calls Try.prog 23 #[.int .u64 W] wx (NatV wx W) := fun wx => rof_c W wx (by omega)
  have of2 : ∀ wx, Calls Try.prog 23 #[.int .u64 D] wx (NatV wx D) := fun wx => rof_c D wx (by omega)
  have K1 := hide of1
  have K2 := hide of2
  clear key of1 of2 hf2 N1 N2
  have keep : ∀ wx wy : World, (wx.cell? ⟨w1.heap.size, 0, none⟩ = some (.slice f.A f.n f.c) ∧ wx.cell? ⟨w1.heap.size, 1, none⟩ = some (.slice f.A' f.n' f.c') ∧ Below w2.heap.size w2 wx) → Below wx.heap.size wx wy →
      wy.cell? ⟨w1.heap.size, 0, none⟩ = some (.slice f.A f.n f.c) ∧ wy.cell? ⟨w1.heap.size, 1, none⟩ = some (.slice f.A' f.n' f.c') ∧ Below w2.heap.size w2 wy := fun wx wy ⟨h1, h2, h5⟩ h6 => by
    have := h5.size
    exact ⟨(h6.cell (p := ⟨w1.heap.size, 0, none⟩) (by show w1.heap.size < _; omega)).trans h1, (h6.cell (p := ⟨w1.heap.size, 1, none⟩) (by show w1.heap.size < _; omega)).trans h2, h5.trans (h6.mono this)⟩
  have KP := hide keep
  clear keep
  have hb22 := Below.refl w2.heap.size w2
  go_region_held3 (fun wx => wx.cell? ⟨w1.heap.size, 0, none⟩ = some (.slice f.A f.n f.c) ∧ wx.cell? ⟨w1.heap.size, 1, none⟩ = some (.slice f.A' f.n' f.c') ∧ Below w2.heap.size w2 wx)
    (first | exact ⟨hc0, hc1, hb22.drew⟩ | exact KP.out _ _ (by assumption) hbz1 | exact KP.out _ _ (by assumption) hbz2 | exact KP.out _ _ (by assumption) hbz3 | exact KP.out _ _ ⟨by assumption, by assumption, by assumption⟩ hbz1 | exact KP.out _ _ ⟨by assumption, by assumption, by assumption⟩ hbz2 | exact KP.out _ _ ⟨by assumption, by assumption, by assumption⟩ hbz3)
    (first
      | (go_at_call_of 23 (W : Int); refine (K1.out _).mono ?_; rintro e wz ⟨A3, n3, c3, l3, rfl, s3, N3, hbz1⟩)
      | (go_at_call_of 23 (D : Int); refine (K2.out _).mono ?_; rintro e wz ⟨A4, n4, c4, l4, rfl, s4, N4, hbz2⟩)
      | (go_at_call 22; refine (K3.out _ _ _ _ l3 _ _ _ l4 (by first | exact And.right (And.right (by assumption)) | assumption) (by first | exact s3 | exact (s3.below hbz2).mono hbz2.size) (by first | exact s4 | exact (s4.below hbz1).mono hbz1.size) N3 N4).mono ?_; rintro e wz ⟨rfl, hbz3⟩))
  all_goals
    have hq : wz.cell? ⟨w1.heap.size, 0, none⟩ = some (.slice f.A f.n f.c) ∧ wz.cell? ⟨w1.heap.size, 1, none⟩ = some (.slice f.A' f.n' f.c') ∧ Below w2.heap.size w2 wz := by assumption
    have hbw3 := hbw2.trans (hq.2.2.mono hbw2.size)
    clear hq
    go_wp2_with fail
    refine (works_c _).mono ?_
    rintro e w9 ⟨rfl, hb9⟩
    go_wp2
    go_ret
    exact ⟨rfl, hbw3.trans (hb9.mono hbw3.size)⟩
end Go.Proofs.Ytgilhkdmgbeieaa
