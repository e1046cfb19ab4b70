/- The contract of exact's common: the greatest common divisor. -/
import Derived.Test.YtchhkokpjdkkiaaTopDisclosesa06
import Derived.Test.YtchhkokpjdkkiaaTopDisclosesa07
import Derived.Deep.LoopGhost
namespace Go.Proofs.Ytchhkokpjdkkiaa.Ex
open Go.RowKit

theorem bit0_even (A : Option Addr) (n c : Nat) (l : List Nat) (w : World) (B : Nat) (h : Sl w B .u32 A n c l) (hd : Digs 4294967296 l) (hi : 0 < n) (hn : n ≤ 1099511627776) (he : val 4294967296 l % 2 = 0) :
    Calls Try.prog 131 #[.slice A n c, .int .i64 0] w fun e w' => e = .returned (.int .u32 0) ∧ w = w' := by
  have := bit_c A n c l w B 0 h hd (by omega) hn
  rw [show val 4294967296 l / 2 ^ 0 % 2 = 0 by simpa using he] at this
  exact this
theorem bit0_odd (A : Option Addr) (n c : Nat) (l : List Nat) (w : World) (B : Nat) (h : Sl w B .u32 A n c l) (hd : Digs 4294967296 l) (hi : 0 < n) (hn : n ≤ 1099511627776) (he : val 4294967296 l % 2 = 1) :
    Calls Try.prog 131 #[.slice A n c, .int .i64 0] w fun e w' => e = .returned (.int .u32 1) ∧ w = w' := by
  have := bit_c A n c l w B 0 h hd (by omega) hn
  rw [show val 4294967296 l / 2 ^ 0 % 2 = 1 by simpa using he] at this
  exact this

/-- A number in a block of its own. -/
structure NatO (w : World) (base : Nat) (g n c : Nat) (l : List Nat) (N : Nat) : Prop where
  own : Own w base 184 .u32 (some ⟨g, 0, none⟩) n c l
  num : Num 4294967296 l N
theorem NatO.pos {w : World} {base g n c N : Nat} {l : List Nat} (h : NatO w base g n c l N) (hN : 0 < N) : 0 < n := by
  have := h.num.zero_iff (by omega)
  rw [h.own.len] at this
  omega
theorem NatO.le {w : World} {base g n c N M : Nat} {l : List Nat} (h : NatO w base g n c l N) (hN : N < 4294967296 ^ M) : n ≤ M := by
  have := (h.num.length_le (by omega) M).2 hN
  rwa [h.own.len] at this

/-- What holds of the two numbers and the count of twos. -/
structure ComI (w wr : World) (V W M ga na ca gb nb cb : Nat) (la lb : List Nat) (X Y t : Nat) : Prop where
  a : NatO wr w.heap.size ga na ca la X
  b : NatO wr w.heap.size gb nb cb lb Y
  ne : ga ≠ gb
  y : 0 < Y
  gcd : Nat.gcd V W = 2 ^ t * Nat.gcd X Y
  xm : X < 4294967296 ^ M
  ym : Y < 4294967296 ^ M
  bel : Below w.heap.size w wr

set_option maxRecDepth 100000 in
set_option maxHeartbeats 3200000 in
theorem common_c (A : Option Addr) (na ca : Nat) (la : List Nat) (A' : Option Addr) (nb cb : Nat) (lb : List Nat) (w : World) (B : Nat) (ha : Sl w B .u32 A na ca la) (hb : Sl w B .u32 A' nb cb lb)
    (hB : B ≤ w.heap.size) (hda : Digs 4294967296 la) (hdb : Digs 4294967296 lb) (M : Nat) (hna : na ≤ M) (hnb : nb ≤ M) (hMM : M ≤ 1048576) :
    Calls Try.prog 108 #[.slice A na ca, .slice A' nb cb] w (NatR w (Nat.gcd (val 4294967296 la) (val 4294967296 lb))) := by
  obtain ⟨V, hV⟩ : ∃ V, val 4294967296 la = V := ⟨_, rfl⟩
  obtain ⟨W, hW⟩ : ∃ W, val 4294967296 lb = W := ⟨_, rfl⟩
  have hVM : V < 4294967296 ^ M := by
    have := val_lt hda
    rw [hV, ha.len] at this
    exact Nat.lt_of_lt_of_le this (Nat.pow_le_pow_right (by omega) hna)
  have hWM : W < 4294967296 ^ M := by
    have := val_lt hdb
    rw [hW, hb.len] at this
    exact Nat.lt_of_lt_of_le this (Nat.pow_le_pow_right (by omega) hnb)
  have HVM := hide hVM
  have HWM := hide hWM
  have HV := hide hV
  have HW := hide hW
  rw [hV, hW]
  clear hV hW hVM hWM
  have hca := clone_c A na ca la w B ha hB hda (by omega)
  rw [HV.out] at hca
  go_enter Try.func108, Try.ntmps108
  go_wp2_with fail
  refine hca.mono ?_
  rintro e w1 ⟨g1, n1, c1, l1, rfl, ho1, hn1, hb1⟩
  clear hca
  have hcb := clone_c A' nb cb lb w1 w1.heap.size ((hb.below (hb1.mono hB)).mono (by have := hb1.size; omega)) (Nat.le_refl _) hdb (by omega)
  rw [HW.out] at hcb
  go_wp2_with fail
  refine hcb.mono ?_
  rintro e w2 ⟨g2, n2, c2, l2, rfl, ho2, hn2, hb2⟩
  clear hcb
  have ho1' := ho1.below hb2 (Nat.le_refl _)
  have hbw : Below w.heap.size w w2 := hb1.trans (hb2.mono hb1.size)
  have hm1 := ho1.sl.max
  have hm2 := ho2.sl.max
  have hc1 := ho1.sl.cap
  have hc2 := ho2.sl.cap
  by_cases hV0 : V = 0
  · have h0 : n1 = 0 := by have := (hn1.zero_iff (by omega)).2 hV0; rwa [ho1.len] at this
    subst h0
    go_wp2
    go_ret
    rw [hV0, Nat.gcd_zero_left]
    exact ⟨_, _, _, _, rfl, ho2.mono hb1.size, hn2, hbw⟩
  · have h1 : 0 < n1 := by
      have := hn1.zero_iff (by omega)
      rw [ho1.len] at this; omega
    by_cases hW0 : W = 0
    · have h0 : n2 = 0 := by have := (hn2.zero_iff (by omega)).2 hW0; rwa [ho2.len] at this
      subst h0
      go_wp2
      go_ret
      rw [hW0, Nat.gcd_zero_right]
      exact ⟨_, _, _, _, rfl, ho1', hn1, hbw⟩
    · have h2 : 0 < n2 := by
        have := hn2.zero_iff (by omega)
        rw [ho2.len] at this; omega
      have hg1 := (ho1.lt rfl).2
      have hg2 := (ho2.lt rfl).1
      have hz1 : ((n1 : Int) == 0) = false := beq_eq_false_iff_ne.2 (by omega)
      have hz2 : ((n2 : Int) == 0) = false := beq_eq_false_iff_ne.2 (by omega)
      go_wp2
      go_loopg [0, 1, 5] V (fun k v0 v1 v5 wr => ∃ (ga na ca gb nb cb : Nat) (la lb : List Nat) (Y t : Nat), v0 = .slice (some ⟨ga, 0, none⟩) na ca ∧ v1 = .slice (some ⟨gb, 0, none⟩) nb cb ∧ v5 = .int .i64 t ∧
        0 < k ∧ ComI w wr V W M ga na ca gb nb cb la lb k Y t)
      case atStart => exact ⟨g1, n1, c1, g2, n2, c2, l1, l2, W, 0, rfl, rfl, rfl, by omega, ⟨⟨ho1', hn1⟩, ⟨ho2.mono hb1.size, hn2⟩, by omega, by omega, by simp, HVM.out, HWM.out, hbw⟩⟩
      case round =>
        obtain ⟨ga, na, ca, gb, nb, cb, la, lb, Y, t, rfl, rfl, rfl, hX, hI⟩ := hrel
        have ht := twos_lt hI.gcd (by omega) HVM.out
        have hpa := hI.a.pos hX
        have hpb := hI.b.pos hI.y
        have hla := hI.a.le hI.xm
        have hlb := hI.b.le hI.ym
        by_cases hev : gk % 2 = 0 ∧ Y % 2 = 0
        · obtain ⟨hx2, hy2⟩ := hev
          have hg := gcd_halves hx2 hy2
          have HG := hide hg
          have HX2 := hide hx2
          have HY2 := hide hy2
          clear hg hx2 hy2
          go_wp2_with fail
          refine (bit0_even _ _ _ _ _ _ hI.a.own.sl hI.a.num.dig hpa (by omega) (by rw [hI.a.num.val_]; exact HX2.out)).mono ?_
          rintro e w' ⟨rfl, rfl⟩
          go_wp2_with fail
          refine (bit0_even _ _ _ _ _ _ hI.b.own.sl hI.b.num.dig hpb (by omega) (by rw [hI.b.num.val_]; exact HY2.out)).mono ?_
          rintro e w' ⟨rfl, rfl⟩
          go_wp2_with fail
          refine (half_c _ _ _ _ _ _ hI.a.own hI.a.num.dig (by omega)).mono ?_
          rintro e w3 ⟨ma, la2, rfl, hma, hoa2, hna2, hg3⟩
          have hob2 := hI.b.own.grown hg3 (fun g h => by injection h with h; injection h with h; subst h; simp; exact fun e => hI.ne e.symm)
          have hbw3 : Below w.heap.size w w3 := hI.bel.grown hg3 hI.bel.size (fun k hk => by cases hk; exact (hI.a.own.lt rfl).1)
          go_wp2_with fail
          refine (half_c _ _ _ _ _ _ hob2 hI.b.num.dig (by omega)).mono ?_
          rintro e w4 ⟨mb, lb2, rfl, hmb, hob3, hnb3, hg4⟩
          have hoa3 := hoa2.grown hg4 (fun g h => by injection h with h; injection h with h; subst h; simp; exact hI.ne)
          have hbw4 : Below w.heap.size w w4 := hbw3.grown hg4 hbw3.size (fun k hk => by cases hk; exact (hI.b.own.lt rfl).1)
          rw [hI.a.num.val_] at hna2
          rw [hI.b.num.val_] at hnb3
          clear hg3 hg4
          go_wp2
          go_roundg (gk / 2)
          case measure => omega
          case rel =>
            have hx2 := HX2.out
            have hy2 := HY2.out
            have hy := hI.y
            have hxm := hI.xm
            have hym := hI.ym
            exact ⟨ga, ma, ca, gb, mb, cb, la2, lb2, Y / 2, t + 1, rfl, rfl, by go_num, by omega, ⟨⟨hoa3, hna2⟩, ⟨hob3, hnb3⟩, hI.ne, by omega, by rw [hI.gcd, HG.out, Nat.pow_succ, Nat.mul_assoc], by omega, by omega, hbw4⟩⟩
        · have hodd : gk % 2 = 1 ∨ Y % 2 = 1 := by omega
          have hcase : gk % 2 = 1 ∨ gk % 2 = 0 := by omega
          obtain ⟨X, rfl⟩ : ∃ X, X = gk := ⟨_, rfl⟩
          have HO := hide hodd
          clear hodd hev
          rcases hcase with hx2 | hx2
          · have HX2 := hide hx2
            clear hx2
            go_wp2_with fail
            refine (bit0_odd _ _ _ _ _ _ hI.a.own.sl hI.a.num.dig hpa (by omega) (by rw [hI.a.num.val_]; exact HX2.out)).mono ?_
            rintro e w' ⟨rfl, rfl⟩
            go_wp2
            go_loopg [0, 1] (X + Y) (fun k v0 v1 wr => ∃ (ga na ca gb nb cb : Nat) (la lb : List Nat) (X Y : Nat), v0 = .slice (some ⟨ga, 0, none⟩) na ca ∧ v1 = .slice (some ⟨gb, 0, none⟩) nb cb ∧
              k = X + Y ∧ (X % 2 = 1 ∨ Y % 2 = 1) ∧ ComI w wr V W M ga na ca gb nb cb la lb X Y t)
            case atStart => exact ⟨ga, na, ca, gb, nb, cb, la, lb, X, Y, rfl, rfl, rfl, HO.out, hI⟩
            case round =>
              clear hI HO HX2
              obtain ⟨ga, na, ca, gb, nb, cb, la, lb, X, Y, rfl, rfl, hk, hodd, hI⟩ := hrel
              have HO := hide hodd
              have HK := hide hk
              clear hodd hk
              have hla := hI.a.le hI.xm
              have hlb := hI.b.le hI.ym
              by_cases hX : 0 < X
              · have hpa := hI.a.pos hX
                obtain ⟨wo, rfl⟩ : ∃ wo : World, wo = wr := ⟨_, rfl⟩
                go_wp2
                go_loopg [0] X (fun k v0 wr => ∃ (ga na ca : Nat) (la : List Nat), v0 = .slice (some ⟨ga, 0, none⟩) na ca ∧
                  0 < k ∧ k ≤ X ∧ (k % 2 = 1 ∨ Y % 2 = 1) ∧ ComI w wr V W M ga na ca gb nb cb la lb k Y t)
                case atStart => exact ⟨ga, na, ca, la, rfl, hX, Nat.le_refl _, HO.out, hI⟩
                case round =>
                  clear hI HO hpa hla
                  obtain ⟨ga, na, ca, la, rfl, hX', hXle, hodd, hI⟩ := hrel
                  obtain ⟨X', rfl⟩ : ∃ X', X' = gk := ⟨_, rfl⟩
                  have HO := hide hodd
                  clear hodd
                  have hpa := hI.a.pos hX'
                  have hla := hI.a.le hI.xm
                  have hcase : X' % 2 = 0 ∨ X' % 2 = 1 := by omega
                  rcases hcase with hx2 | hx2
                  · have HX2 := hide hx2
                    have HY2 : Hid (Y % 2 = 1) := by have := HO.out; show Y % 2 = 1; omega
                    clear hx2
                    go_wp2_with fail
                    refine (bit0_even _ _ _ _ _ _ hI.a.own.sl hI.a.num.dig hpa (by omega) (by rw [hI.a.num.val_]; exact HX2.out)).mono ?_
                    rintro e w' ⟨rfl, rfl⟩
                    go_wp2_with fail
                    refine (half_c _ _ _ _ _ _ hI.a.own hI.a.num.dig (by omega)).mono ?_
                    rintro e w3 ⟨ma, la2, rfl, hma, hoa2, hna2, hg3⟩
                    have hob2 := hI.b.own.grown hg3 (fun g h => by injection h with h; injection h with h; subst h; simp; exact fun e => hI.ne e.symm)
                    have hbw3 : Below w.heap.size w w3 := hI.bel.grown hg3 hI.bel.size (fun k hk => by cases hk; exact (hI.a.own.lt rfl).1)
                    rw [hI.a.num.val_] at hna2
                    clear hg3
                    go_wp2
                    go_roundg (X' / 2)
                    case measure => omega
                    case rel =>
                      have hx2 := HX2.out
                      have hxm := hI.xm
                      exact ⟨ga, ma, ca, la2, rfl, by omega, by omega, .inr HY2.out, ⟨⟨hoa2, hna2⟩, ⟨hob2, hI.b.num⟩, hI.ne, hI.y, by rw [hI.gcd, gcd_half_left HX2.out HY2.out], by omega, hI.ym, hbw3⟩⟩
                  · have HX2 := hide hx2
                    clear hx2
                    go_wp2_with fail
                    refine (bit0_odd _ _ _ _ _ _ hI.a.own.sl hI.a.num.dig hpa (by omega) (by rw [hI.a.num.val_]; exact HX2.out)).mono ?_
                    rintro e w' ⟨rfl, rfl⟩
                    obtain ⟨wp, rfl⟩ : ∃ wp : World, wp = wr := ⟨_, rfl⟩
                    go_wp2
                    go_loopg [1] Y (fun k v1 wr => ∃ (gb nb cb : Nat) (lb : List Nat), v1 = .slice (some ⟨gb, 0, none⟩) nb cb ∧
                      k ≤ Y ∧ ComI w wr V W M ga na ca gb nb cb la lb X' k t)
                    case atStart => exact ⟨gb, nb, cb, lb, rfl, Nat.le_refl _, hI⟩
                    case round =>
                      clear hI HO hlb
                      obtain ⟨gb, nb, cb, lb, rfl, hYle, hI⟩ := hrel
                      obtain ⟨Y', rfl⟩ : ∃ Y', Y' = gk := ⟨_, rfl⟩
                      have hpb := hI.b.pos hI.y
                      have hlb := hI.b.le hI.ym
                      have hYpos := hI.y
                      have hcase : Y' % 2 = 0 ∨ Y' % 2 = 1 := by omega
                      rcases hcase with hy2 | hy2
                      · have HY2 := hide hy2
                        clear hy2
                        go_wp2_with fail
                        refine (bit0_even _ _ _ _ _ _ hI.b.own.sl hI.b.num.dig hpb (by omega) (by rw [hI.b.num.val_]; exact HY2.out)).mono ?_
                        rintro e w' ⟨rfl, rfl⟩
                        go_wp2_with fail
                        refine (half_c _ _ _ _ _ _ hI.b.own hI.b.num.dig (by omega)).mono ?_
                        rintro e w3 ⟨mb, lb2, rfl, hmb, hob2, hnb2, hg3⟩
                        have hoa2 := hI.a.own.grown hg3 (fun g h => by injection h with h; injection h with h; subst h; simp; exact hI.ne)
                        have hbw3 : Below w.heap.size w w3 := hI.bel.grown hg3 hI.bel.size (fun k hk => by cases hk; exact (hI.b.own.lt rfl).1)
                        rw [hI.b.num.val_] at hnb2
                        clear hg3
                        go_wp2
                        go_roundg (Y' / 2)
                        case measure => omega
                        case rel =>
                          have hy2 := HY2.out
                          have hym := hI.ym
                          exact ⟨gb, mb, cb, lb2, rfl, by omega, ⟨⟨hoa2, hI.a.num⟩, ⟨hob2, hnb2⟩, hI.ne, by omega, by rw [hI.gcd, gcd_half_right HX2.out HY2.out], hI.xm, by omega, hbw3⟩⟩
                      · have HY2 := hide hy2
                        clear hy2
                        go_wp2_with fail
                        refine (bit0_odd _ _ _ _ _ _ hI.b.own.sl hI.b.num.dig hpb (by omega) (by rw [hI.b.num.val_]; exact HY2.out)).mono ?_
                        rintro e w' ⟨rfl, rfl⟩
                        have hcmp := order_c _ _ _ _ _ _ _ _ wr _ hI.a.own.sl hI.b.own.sl hI.a.num.dig hI.b.num.dig
                        rw [hI.a.num.val_, hI.b.num.val_] at hcmp
                        rcases Nat.lt_or_ge X' Y' with hlt | hge
                        · have hs := ordI_neg hlt
                          go_wp2_with fail
                          refine hcmp.mono ?_
                          rintro e w' ⟨rfl, nq, rfl⟩
                          clear hcmp
                          have hmi := minus_c _ _ _ _ _ _ _ _ (wr.drewN nq) _ (hI.b.own.drewN nq).sl (hI.a.own.drewN nq).sl (Nat.le_refl _) hI.b.num.dig hI.a.num.dig (by omega)
                            (Nat.le_of_not_lt fun h => by have := hI.b.num.lt_of_length hI.a.num (by omega) (by rw [hI.a.own.len, hI.b.own.len]; exact h); omega) (by rw [hI.a.num.val_, hI.b.num.val_]; omega)
                          rw [hI.a.num.val_, hI.b.num.val_] at hmi
                          go_wp2_with fail
                          refine hmi.mono ?_
                          rintro e w4 ⟨gd, nd, cd, ld, rfl, hod, hnd, hb4⟩
                          have hb4' : Below wr.heap.size wr w4 := ⟨hb4.os, hb4.tape, hb4.output, hb4.size, hb4.block⟩
                          clear hmi hb4
                          go_wp2
                          go_roundg (Y' - X' + X')
                          case measure => have := HK.out; omega
                          case rel =>
                            have hl := (hI.a.own.lt rfl).2
                            have hl2 : wr.heap.size ≤ gd := (hod.lt rfl).1
                            have hbs := hI.bel.size
                            have hym := hI.ym
                            exact ⟨gd, nd, cd, ga, na, ca, ld, la, Y' - X', X', rfl, rfl, rfl, .inr HX2.out, ⟨⟨hod.mono hbs, hnd⟩, ⟨hI.a.own.below hb4' (Nat.le_refl _), hI.a.num⟩, by omega, hX', by rw [hI.gcd, Nat.gcd_comm, gcd_diff (by omega)], by omega, hI.xm, hI.bel.trans (hb4'.mono hbs)⟩⟩
                        · have hs := ordI_nonneg hge
                          go_wp2_with fail
                          refine hcmp.mono ?_
                          rintro e w' ⟨rfl, nq, rfl⟩
                          clear hcmp
                          have hmi := minus_c _ _ _ _ _ _ _ _ (wr.drewN nq) _ (hI.a.own.drewN nq).sl (hI.b.own.drewN nq).sl (Nat.le_refl _) hI.a.num.dig hI.b.num.dig (by omega)
                            (Nat.le_of_not_lt fun h => by have := hI.a.num.lt_of_length hI.b.num (by omega) (by rw [hI.a.own.len, hI.b.own.len]; exact h); omega) (by rw [hI.a.num.val_, hI.b.num.val_]; omega)
                          rw [hI.a.num.val_, hI.b.num.val_] at hmi
                          go_wp2_with fail
                          refine hmi.mono ?_
                          rintro e w4 ⟨gd, nd, cd, ld, rfl, hod, hnd, hb4⟩
                          have hb4' : Below wr.heap.size wr w4 := ⟨hb4.os, hb4.tape, hb4.output, hb4.size, hb4.block⟩
                          clear hmi hb4
                          go_wp2
                          go_roundg (X' - Y' + Y')
                          case measure => have := HK.out; omega
                          case rel =>
                            have hl := (hI.b.own.lt rfl).2
                            have hl2 : wr.heap.size ≤ gd := (hod.lt rfl).1
                            have hbs := hI.bel.size
                            have hxm := hI.xm
                            exact ⟨gd, nd, cd, gb, nb, cb, ld, lb, X' - Y', Y', rfl, rfl, rfl, .inr HY2.out, ⟨⟨hod.mono hbs, hnd⟩, ⟨hI.b.own.below hb4' (Nat.le_refl _), hI.b.num⟩, by omega, hI.y, by rw [hI.gcd, gcd_diff hge], by omega, hI.ym, hI.bel.trans (hb4'.mono hbs)⟩⟩
              · obtain rfl : X = 0 := by omega
                obtain rfl : na = 0 := by have := (hI.a.num.zero_iff (by omega)).2 rfl; rwa [hI.a.own.len] at this
                have HG : Hid (Nat.gcd V W = Y * 2 ^ t) := by rw [hI.gcd, Nat.gcd_zero_left, Nat.mul_comm]; rfl
                have HYn : Hid (Y < 4294967296 ^ nb) := by have := hI.b.num.lt; rw [hI.b.own.len] at this; exact this
                go_wp2_with (first
                  | (at_make; refine wl_make _ rfl _ _ _ rfl 184 .u32 4 Try.underlying129 info_u32 (by omega) _ _ (nb + t / 32 + 1) rfl rfl (by omega) (by omega) (by omega) ?_; intro w5 ho5 hg5 hsz5; have hob5 := hI.b.own.grown hg5 (fun g h => by simp); have hbw5 : Below w.heap.size w w5 := hI.bel.grown hg5 hI.bel.size (fun k hk => by cases hk); clear hg5)
                  | (with_reducible refine wl_copy _ rfl _ _ _ _ rfl wr.heap.size 184 .u32 4 Try.underlying129 info_u32 _ _ _ _ rfl ho5 _ _ _ _ rfl _ hob5.sl ?_; intro w6 ho6 hg6))
                have hbw6 : Below w.heap.size w w6 := hbw5.grown hg6 hbw5.size (fun k hk => by cases hk; exact hI.bel.size)
                have hbs : w.heap.size ≤ wr.heap.size := hI.bel.size
                clear hg6
                obtain ⟨lo6, ho6', hd6, hv6⟩ : ∃ lo6, Own w6 wr.heap.size 184 .u32 (some ⟨wr.heap.size, 0, none⟩) (nb + t / 32 + 1) (nb + t / 32 + 1) lo6 ∧ Digs 4294967296 lo6 ∧ val 4294967296 lo6 = Y := by
                  refine ⟨_, ho6, ?_, ?_⟩
                  · rw [List.take_of_length_le (by rw [hI.b.own.len]; omega), List.drop_replicate]
                    exact hI.b.num.dig.append (Digs.replicate (by omega) _)
                  · rw [List.take_of_length_le (by rw [hI.b.own.len]; omega), List.drop_replicate, val_zeros_append]; exact hI.b.num.val_
                have HV6 := hide hv6
                clear ho6 hv6 ho5 hob5 hbw5
                go_loopw [66] (fun v wq => ∃ (i : Nat) (lo : List Nat), i ≤ t ∧ v = .int .i64 i ∧ Own wq wr.heap.size 184 .u32 (some ⟨wr.heap.size, 0, none⟩) (nb + t / 32 + 1) (nb + t / 32 + 1) lo ∧
                    Digs 4294967296 lo ∧ val 4294967296 lo = Y * 2 ^ i ∧ Below w.heap.size w wq)
                  (fun v _ => t - (intOf v).toNat)
                case atStart => exact ⟨0, lo6, by omega, rfl, ho6', hd6, by rw [HV6.out]; simp, hbw6⟩
                case round =>
                  rename_i wq _ _ _ _ _
                  obtain ⟨i, lo, hi, rfl, ho, hdo, hv, hbw⟩ := hrel
                  have HVV := hide hv
                  clear hv
                  by_cases hlt : i < t
                  · go_wp2_with fail
                    refine (double_c _ _ _ _ _ _ 0 ho hdo (by omega) (by omega)).mono ?_
                    rintro e w7 ⟨rfl, lo7, ho7, hd7, ⟨out, hout⟩, hg7⟩
                    rw [HVV.out, Nat.add_zero] at hout
                    have hv7 : Hid (val 4294967296 lo7 = Y * 2 ^ (i + 1)) := by
                      have h1 : 2 * (Y * 2 ^ i) = Y * 2 ^ (i + 1) := by rw [Nat.pow_succ]; grind
                      rw [h1] at hout
                      have h2 := twos_fit HYn.out (show i + 1 ≤ t from hlt)
                      have h3 := dbl_fits (x := Y * 2 ^ i) (by rw [h1]; exact hout) (by rw [h1]; exact h2)
                      rw [h1] at h3; exact h3
                    have hbw7 : Below w.heap.size w w7 := hbw.grown hg7 hbw.size (fun k hk => by cases hk; exact hbs)
                    clear hout hg7
                    go_wp2
                    go_roundw
                    case rel => exact ⟨i + 1, lo7, by omega, by go_num, ho7, hd7, hv7.out, hbw7⟩
                    case measure => simp [intOf] <;> omega
                  · obtain rfl : i = t := by omega
                    go_wp2_with fail
                    refine (trim_n _ _ _ _ _ _ ho.sl hdo).mono ?_
                    rintro e w' ⟨mq, hmq, rfl, tq, rfl⟩
                    go_wp2
                    go_ret
                    rw [HVV.out, ← HG.out] at tq
                    exact ⟨_, _, _, _, rfl, (ho.take hmq).mono hbs, tq, hbw⟩
          · have HX2 := hide hx2
            have HY2 : Hid (Y % 2 = 1) := by have := HO.out; show Y % 2 = 1; omega
            clear hx2
            go_wp2_with fail
            refine (bit0_even _ _ _ _ _ _ hI.a.own.sl hI.a.num.dig hpa (by omega) (by rw [hI.a.num.val_]; exact HX2.out)).mono ?_
            rintro e w' ⟨rfl, rfl⟩
            go_wp2_with fail
            refine (bit0_odd _ _ _ _ _ _ hI.b.own.sl hI.b.num.dig hpb (by omega) (by rw [hI.b.num.val_]; exact HY2.out)).mono ?_
            rintro e w' ⟨rfl, rfl⟩
            go_wp2
            go_loopg [0, 1] (X + Y) (fun k v0 v1 wr => ∃ (ga na ca gb nb cb : Nat) (la lb : List Nat) (X Y : Nat), v0 = .slice (some ⟨ga, 0, none⟩) na ca ∧ v1 = .slice (some ⟨gb, 0, none⟩) nb cb ∧
              k = X + Y ∧ (X % 2 = 1 ∨ Y % 2 = 1) ∧ ComI w wr V W M ga na ca gb nb cb la lb X Y t)
            case atStart => exact ⟨ga, na, ca, gb, nb, cb, la, lb, X, Y, rfl, rfl, rfl, HO.out, hI⟩
            case round =>
              clear hI HO HX2
              obtain ⟨ga, na, ca, gb, nb, cb, la, lb, X, Y, rfl, rfl, hk, hodd, hI⟩ := hrel
              have HO := hide hodd
              have HK := hide hk
              clear hodd hk
              have hla := hI.a.le hI.xm
              have hlb := hI.b.le hI.ym
              by_cases hX : 0 < X
              · have hpa := hI.a.pos hX
                obtain ⟨wo, rfl⟩ : ∃ wo : World, wo = wr := ⟨_, rfl⟩
                go_wp2
                go_loopg [0] X (fun k v0 wr => ∃ (ga na ca : Nat) (la : List Nat), v0 = .slice (some ⟨ga, 0, none⟩) na ca ∧
                  0 < k ∧ k ≤ X ∧ (k % 2 = 1 ∨ Y % 2 = 1) ∧ ComI w wr V W M ga na ca gb nb cb la lb k Y t)
                case atStart => exact ⟨ga, na, ca, la, rfl, hX, Nat.le_refl _, HO.out, hI⟩
                case round =>
                  clear hI HO hpa hla
                  obtain ⟨ga, na, ca, la, rfl, hX', hXle, hodd, hI⟩ := hrel
                  obtain ⟨X', rfl⟩ : ∃ X', X' = gk := ⟨_, rfl⟩
                  have HO := hide hodd
                  clear hodd
                  have hpa := hI.a.pos hX'
                  have hla := hI.a.le hI.xm
                  have hcase : X' % 2 = 0 ∨ X' % 2 = 1 := by omega
                  rcases hcase with hx2 | hx2
                  · have HX2 := hide hx2
                    have HY2 : Hid (Y % 2 = 1) := by have := HO.out; show Y % 2 = 1; omega
                    clear hx2
                    go_wp2_with fail
                    refine (bit0_even _ _ _ _ _ _ hI.a.own.sl hI.a.num.dig hpa (by omega) (by rw [hI.a.num.val_]; exact HX2.out)).mono ?_
                    rintro e w' ⟨rfl, rfl⟩
                    go_wp2_with fail
                    refine (half_c _ _ _ _ _ _ hI.a.own hI.a.num.dig (by omega)).mono ?_
                    rintro e w3 ⟨ma, la2, rfl, hma, hoa2, hna2, hg3⟩
                    have hob2 := hI.b.own.grown hg3 (fun g h => by injection h with h; injection h with h; subst h; simp; exact fun e => hI.ne e.symm)
                    have hbw3 : Below w.heap.size w w3 := hI.bel.grown hg3 hI.bel.size (fun k hk => by cases hk; exact (hI.a.own.lt rfl).1)
                    rw [hI.a.num.val_] at hna2
                    clear hg3
                    go_wp2
                    go_roundg (X' / 2)
                    case measure => omega
                    case rel =>
                      have hx2 := HX2.out
                      have hxm := hI.xm
                      exact ⟨ga, ma, ca, la2, rfl, by omega, by omega, .inr HY2.out, ⟨⟨hoa2, hna2⟩, ⟨hob2, hI.b.num⟩, hI.ne, hI.y, by rw [hI.gcd, gcd_half_left HX2.out HY2.out], by omega, hI.ym, hbw3⟩⟩
                  · have HX2 := hide hx2
                    clear hx2
                    go_wp2_with fail
                    refine (bit0_odd _ _ _ _ _ _ hI.a.own.sl hI.a.num.dig hpa (by omega) (by rw [hI.a.num.val_]; exact HX2.out)).mono ?_
                    rintro e w' ⟨rfl, rfl⟩
                    obtain ⟨wp, rfl⟩ : ∃ wp : World, wp = wr := ⟨_, rfl⟩
                    go_wp2
                    go_loopg [1] Y (fun k v1 wr => ∃ (gb nb cb : Nat) (lb : List Nat), v1 = .slice (some ⟨gb, 0, none⟩) nb cb ∧
                      k ≤ Y ∧ ComI w wr V W M ga na ca gb nb cb la lb X' k t)
                    case atStart => exact ⟨gb, nb, cb, lb, rfl, Nat.le_refl _, hI⟩
                    case round =>
                      clear hI HO hlb
                      obtain ⟨gb, nb, cb, lb, rfl, hYle, hI⟩ := hrel
                      obtain ⟨Y', rfl⟩ : ∃ Y', Y' = gk := ⟨_, rfl⟩
                      have hpb := hI.b.pos hI.y
                      have hlb := hI.b.le hI.ym
                      have hYpos := hI.y
                      have hcase : Y' % 2 = 0 ∨ Y' % 2 = 1 := by omega
                      rcases hcase with hy2 | hy2
                      · have HY2 := hide hy2
                        clear hy2
                        go_wp2_with fail
                        refine (bit0_even _ _ _ _ _ _ hI.b.own.sl hI.b.num.dig hpb (by omega) (by rw [hI.b.num.val_]; exact HY2.out)).mono ?_
                        rintro e w' ⟨rfl, rfl⟩
                        go_wp2_with fail
                        refine (half_c _ _ _ _ _ _ hI.b.own hI.b.num.dig (by omega)).mono ?_
                        rintro e w3 ⟨mb, lb2, rfl, hmb, hob2, hnb2, hg3⟩
                        have hoa2 := hI.a.own.grown hg3 (fun g h => by injection h with h; injection h with h; subst h; simp; exact hI.ne)
                        have hbw3 : Below w.heap.size w w3 := hI.bel.grown hg3 hI.bel.size (fun k hk => by cases hk; exact (hI.b.own.lt rfl).1)
                        rw [hI.b.num.val_] at hnb2
                        clear hg3
                        go_wp2
                        go_roundg (Y' / 2)
                        case measure => omega
                        case rel =>
                          have hy2 := HY2.out
                          have hym := hI.ym
                          exact ⟨gb, mb, cb, lb2, rfl, by omega, ⟨⟨hoa2, hI.a.num⟩, ⟨hob2, hnb2⟩, hI.ne, by omega, by rw [hI.gcd, gcd_half_right HX2.out HY2.out], hI.xm, by omega, hbw3⟩⟩
                      · have HY2 := hide hy2
                        clear hy2
                        go_wp2_with fail
                        refine (bit0_odd _ _ _ _ _ _ hI.b.own.sl hI.b.num.dig hpb (by omega) (by rw [hI.b.num.val_]; exact HY2.out)).mono ?_
                        rintro e w' ⟨rfl, rfl⟩
                        have hcmp := order_c _ _ _ _ _ _ _ _ wr _ hI.a.own.sl hI.b.own.sl hI.a.num.dig hI.b.num.dig
                        rw [hI.a.num.val_, hI.b.num.val_] at hcmp
                        rcases Nat.lt_or_ge X' Y' with hlt | hge
                        · have hs := ordI_neg hlt
                          go_wp2_with fail
                          refine hcmp.mono ?_
                          rintro e w' ⟨rfl, nq, rfl⟩
                          clear hcmp
                          have hmi := minus_c _ _ _ _ _ _ _ _ (wr.drewN nq) _ (hI.b.own.drewN nq).sl (hI.a.own.drewN nq).sl (Nat.le_refl _) hI.b.num.dig hI.a.num.dig (by omega)
                            (Nat.le_of_not_lt fun h => by have := hI.b.num.lt_of_length hI.a.num (by omega) (by rw [hI.a.own.len, hI.b.own.len]; exact h); omega) (by rw [hI.a.num.val_, hI.b.num.val_]; omega)
                          rw [hI.a.num.val_, hI.b.num.val_] at hmi
                          go_wp2_with fail
                          refine hmi.mono ?_
                          rintro e w4 ⟨gd, nd, cd, ld, rfl, hod, hnd, hb4⟩
                          have hb4' : Below wr.heap.size wr w4 := ⟨hb4.os, hb4.tape, hb4.output, hb4.size, hb4.block⟩
                          clear hmi hb4
                          go_wp2
                          go_roundg (Y' - X' + X')
                          case measure => have := HK.out; omega
                          case rel =>
                            have hl := (hI.a.own.lt rfl).2
                            have hl2 : wr.heap.size ≤ gd := (hod.lt rfl).1
                            have hbs := hI.bel.size
                            have hym := hI.ym
                            exact ⟨gd, nd, cd, ga, na, ca, ld, la, Y' - X', X', rfl, rfl, rfl, .inr HX2.out, ⟨⟨hod.mono hbs, hnd⟩, ⟨hI.a.own.below hb4' (Nat.le_refl _), hI.a.num⟩, by omega, hX', by rw [hI.gcd, Nat.gcd_comm, gcd_diff (by omega)], by omega, hI.xm, hI.bel.trans (hb4'.mono hbs)⟩⟩
                        · have hs := ordI_nonneg hge
                          go_wp2_with fail
                          refine hcmp.mono ?_
                          rintro e w' ⟨rfl, nq, rfl⟩
                          clear hcmp
                          have hmi := minus_c _ _ _ _ _ _ _ _ (wr.drewN nq) _ (hI.a.own.drewN nq).sl (hI.b.own.drewN nq).sl (Nat.le_refl _) hI.a.num.dig hI.b.num.dig (by omega)
                            (Nat.le_of_not_lt fun h => by have := hI.a.num.lt_of_length hI.b.num (by omega) (by rw [hI.a.own.len, hI.b.own.len]; exact h); omega) (by rw [hI.a.num.val_, hI.b.num.val_]; omega)
                          rw [hI.a.num.val_, hI.b.num.val_] at hmi
                          go_wp2_with fail
                          refine hmi.mono ?_
                          rintro e w4 ⟨gd, nd, cd, ld, rfl, hod, hnd, hb4⟩
                          have hb4' : Below wr.heap.size wr w4 := ⟨hb4.os, hb4.tape, hb4.output, hb4.size, hb4.block⟩
                          clear hmi hb4
                          go_wp2
                          go_roundg (X' - Y' + Y')
                          case measure => have := HK.out; omega
                          case rel =>
                            have hl := (hI.b.own.lt rfl).2
                            have hl2 : wr.heap.size ≤ gd := (hod.lt rfl).1
                            have hbs := hI.bel.size
                            have hxm := hI.xm
                            exact ⟨gd, nd, cd, gb, nb, cb, ld, lb, X' - Y', Y', rfl, rfl, rfl, .inr HY2.out, ⟨⟨hod.mono hbs, hnd⟩, ⟨hI.b.own.below hb4' (Nat.le_refl _), hI.b.num⟩, by omega, hI.y, by rw [hI.gcd, gcd_diff hge], by omega, hI.ym, hI.bel.trans (hb4'.mono hbs)⟩⟩
              · obtain rfl : X = 0 := by omega
                obtain rfl : na = 0 := by have := (hI.a.num.zero_iff (by omega)).2 rfl; rwa [hI.a.own.len] at this
                have HG : Hid (Nat.gcd V W = Y * 2 ^ t) := by rw [hI.gcd, Nat.gcd_zero_left, Nat.mul_comm]; rfl
                have HYn : Hid (Y < 4294967296 ^ nb) := by have := hI.b.num.lt; rw [hI.b.own.len] at this; exact this
                go_wp2_with (first
                  | (at_make; refine wl_make _ rfl _ _ _ rfl 184 .u32 4 Try.underlying129 info_u32 (by omega) _ _ (nb + t / 32 + 1) rfl rfl (by omega) (by omega) (by omega) ?_; intro w5 ho5 hg5 hsz5; have hob5 := hI.b.own.grown hg5 (fun g h => by simp); have hbw5 : Below w.heap.size w w5 := hI.bel.grown hg5 hI.bel.size (fun k hk => by cases hk); clear hg5)
                  | (with_reducible refine wl_copy _ rfl _ _ _ _ rfl wr.heap.size 184 .u32 4 Try.underlying129 info_u32 _ _ _ _ rfl ho5 _ _ _ _ rfl _ hob5.sl ?_; intro w6 ho6 hg6))
                have hbw6 : Below w.heap.size w w6 := hbw5.grown hg6 hbw5.size (fun k hk => by cases hk; exact hI.bel.size)
                have hbs : w.heap.size ≤ wr.heap.size := hI.bel.size
                clear hg6
                obtain ⟨lo6, ho6', hd6, hv6⟩ : ∃ lo6, Own w6 wr.heap.size 184 .u32 (some ⟨wr.heap.size, 0, none⟩) (nb + t / 32 + 1) (nb + t / 32 + 1) lo6 ∧ Digs 4294967296 lo6 ∧ val 4294967296 lo6 = Y := by
                  refine ⟨_, ho6, ?_, ?_⟩
                  · rw [List.take_of_length_le (by rw [hI.b.own.len]; omega), List.drop_replicate]
                    exact hI.b.num.dig.append (Digs.replicate (by omega) _)
                  · rw [List.take_of_length_le (by rw [hI.b.own.len]; omega), List.drop_replicate, val_zeros_append]; exact hI.b.num.val_
                have HV6 := hide hv6
                clear ho6 hv6 ho5 hob5 hbw5
                go_loopw [66] (fun v wq => ∃ (i : Nat) (lo : List Nat), i ≤ t ∧ v = .int .i64 i ∧ Own wq wr.heap.size 184 .u32 (some ⟨wr.heap.size, 0, none⟩) (nb + t / 32 + 1) (nb + t / 32 + 1) lo ∧
                    Digs 4294967296 lo ∧ val 4294967296 lo = Y * 2 ^ i ∧ Below w.heap.size w wq)
                  (fun v _ => t - (intOf v).toNat)
                case atStart => exact ⟨0, lo6, by omega, rfl, ho6', hd6, by rw [HV6.out]; simp, hbw6⟩
                case round =>
                  rename_i wq _ _ _ _ _
                  obtain ⟨i, lo, hi, rfl, ho, hdo, hv, hbw⟩ := hrel
                  have HVV := hide hv
                  clear hv
                  by_cases hlt : i < t
                  · go_wp2_with fail
                    refine (double_c _ _ _ _ _ _ 0 ho hdo (by omega) (by omega)).mono ?_
                    rintro e w7 ⟨rfl, lo7, ho7, hd7, ⟨out, hout⟩, hg7⟩
                    rw [HVV.out, Nat.add_zero] at hout
                    have hv7 : Hid (val 4294967296 lo7 = Y * 2 ^ (i + 1)) := by
                      have h1 : 2 * (Y * 2 ^ i) = Y * 2 ^ (i + 1) := by rw [Nat.pow_succ]; grind
                      rw [h1] at hout
                      have h2 := twos_fit HYn.out (show i + 1 ≤ t from hlt)
                      have h3 := dbl_fits (x := Y * 2 ^ i) (by rw [h1]; exact hout) (by rw [h1]; exact h2)
                      rw [h1] at h3; exact h3
                    have hbw7 : Below w.heap.size w w7 := hbw.grown hg7 hbw.size (fun k hk => by cases hk; exact hbs)
                    clear hout hg7
                    go_wp2
                    go_roundw
                    case rel => exact ⟨i + 1, lo7, by omega, by go_num, ho7, hd7, hv7.out, hbw7⟩
                    case measure => simp [intOf] <;> omega
                  · obtain rfl : i = t := by omega
                    go_wp2_with fail
                    refine (trim_n _ _ _ _ _ _ ho.sl hdo).mono ?_
                    rintro e w' ⟨mq, hmq, rfl, tq, rfl⟩
                    go_wp2
                    go_ret
                    rw [HVV.out, ← HG.out] at tq
                    exact ⟨_, _, _, _, rfl, (ho.take hmq).mono hbs, tq, hbw⟩
end Go.Proofs.Ytchhkokpjdkkiaa.Ex
