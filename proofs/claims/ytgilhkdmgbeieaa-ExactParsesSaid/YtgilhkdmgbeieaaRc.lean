/- Contracts of the reference's compare, mul. -/
import Derived.Test.YtgilhkdmgbeieaaRb
import Derived.Test.YtgilhkdmgbeieaaWe
import Derived.Test.YtgilhkdmgbeieaaWb
namespace Go.Proofs.Ytgilhkdmgbeieaa
open Go.RowKit

set_option maxHeartbeats 800000 in
theorem rcompare_c (A : Option Addr) (na ca : Nat) (l : List Nat) (A' : Option Addr) (nb cb : Nat) (m : List Nat) (X Y : Nat) (w : World) (B : Nat) (sa : Sl w B .i64 A na ca l) (sb : Sl w B .i64 A' nb cb m)
    (ta : Num 256 l X) (tb : Num 256 m Y) :
    Calls Try.prog 91 #[.slice A na ca, .slice A' nb cb] w fun e w' => e = .returned (.int .i64 (ordI X Y)) ∧ ∃ q, w' = w.drewN q := by
  have hna := sa.max
  have hnb := sb.max
  have hca := sa.cap
  have hcb := sb.cap
  go_enter Try.func91, Try.ntmps91
  rcases Nat.lt_trichotomy na nb with hlt | heq | hgt
  · go_wp2
    go_ret
    exact ⟨ret_int (ordI_lt (ta.lt_of_length tb (by omega) (by rw [sa.len, sb.len]; exact hlt))).symm, 0, rfl⟩
  · subst heq
    go_wp2
    go_loopw [5] (fun v wr => ∃ k : Nat, k ≤ na ∧ v = .int .i64 ((k : Int) - 1) ∧ l.drop k = m.drop k ∧ ∃ q, wr = w.drewN q) (fun v _ => (intOf v + 1).toNat)
    case atStart => exact ⟨na, Nat.le_refl _, rfl, by rw [List.drop_of_length_le (Nat.le_of_eq sa.len), List.drop_of_length_le (Nat.le_of_eq sb.len)], 0, rfl⟩
    case round =>
      obtain ⟨k, hk, rfl, hd, q, rfl⟩ := hrel
      by_cases h0 : 0 < k
      · obtain ⟨k, rfl⟩ : ∃ j, k = j + 1 := ⟨k - 1, by omega⟩
        obtain ⟨b1, o1, x, rfl, hb1, hx, hxm, hcx⟩ := sa.cell (i := k) (by omega)
        obtain ⟨b2, o2, y, rfl, hb2, hy, hym, hcy⟩ := sb.cell (i := k) (by omega)
        have HD := hide hd
        have hx1 := hide hx
        have hy1 := hide hy
        clear hd hx hy
        rw [show ((k + 1 : Nat) : Int) - 1 = (k : Int) from by omega]
        rcases Nat.lt_trichotomy x y with hlt | heq | hgt
        · go_wp2_with fail
          go_quiet (fail)
          go_wp2
          go_ret
          refine ⟨ret_int (ordI_lt ?_).symm, _, by rw [World.drewN_drewN]⟩
          rw [← ta.val_, ← tb.val_]
          exact val_lt_of_digit (by omega) ta.dig HD.out (by rw [hx1.out, hy1.out]; exact hlt)
        · go_wp2_with fail
          go_quiet (fail)
          go_wp2
          go_quiet (fail)
          go_wp2
          go_roundw
          case rel => exact ⟨k, by omega, rfl, drop_eq_succ HD.out (by rw [sa.len]; omega) (by rw [sb.len]; omega) (by rw [hx1.out, hy1.out]; exact heq), _, rfl⟩
          case measure => simp [intOf] <;> omega
        · go_wp2_with fail
          go_quiet (fail)
          go_wp2
          go_quiet (fail)
          go_wp2
          go_ret
          refine ⟨ret_int (ordI_gt ?_).symm, _, by rw [World.drewN_drewN, World.drewN_drewN]⟩
          rw [← ta.val_, ← tb.val_]
          exact val_lt_of_digit (by omega) tb.dig HD.out.symm (by rw [hx1.out, hy1.out]; exact hgt)
      · obtain rfl : k = 0 := by omega
        have HD := hide hd
        clear hd
        go_wp2
        go_ret
        refine ⟨ret_int (ordI_eq ?_).symm, _, rfl⟩
        have := HD.out
        simp at this
        rw [← ta.val_, ← tb.val_, this]
  · go_wp2
    go_ret
    exact ⟨ret_int (ordI_gt (tb.lt_of_length ta (by omega) (by rw [sa.len, sb.len]; exact hgt))).symm, 0, rfl⟩

theorem u8_mul_le {x y : Nat} (hx : x < 256) (hy : y < 256) : x * y ≤ 65025 :=
  Nat.mul_le_mul (show x ≤ 255 by omega) (show y ≤ 255 by omega)

set_option maxHeartbeats 3200000 in
theorem rmul_c (A : Option Addr) (na ca : Nat) (la : List Nat) (A' : Option Addr) (nb cb : Nat) (lb : List Nat) (w : World) (B : Nat) (ha : Sl w B .i64 A na ca la) (hb : Sl w B .i64 A' nb cb lb)
    (hB : B ≤ w.heap.size) (hda : Digs 256 la) (hdb : Digs 256 lb) (hna : na ≤ 1073741824) (hnb : nb ≤ 1073741824) :
    Calls Try.prog 92 #[.slice A na ca, .slice A' nb cb] w (DigV w (val 256 la * val 256 lb)) := by
  go_enter Try.func92, Try.ntmps92
  go_wp2_with (first
    | (at_make; refine wl_make _ rfl _ _ _ rfl 3 .i64 8 Try.underlying82 info_int (by omega) _ _ (na + nb) rfl rfl (by omega) (by omega) (by omega) ?_; intro w1 hown hgr hsz))
  have hbel : Below w.heap.size w w1 := (Below.refl _ _).grown hgr (Nat.le_refl _) (fun k hk => by cases hk)
  clear hgr
  go_loopw [6] (fun iv wr => ∃ (i : Nat) (lo : List Nat), i ≤ na ∧ iv = .int .i64 i ∧
      Own wr w.heap.size 3 .i64 (some ⟨w.heap.size, 0, none⟩) (na + nb) (na + nb) lo ∧ Digs 256 lo ∧ TimesI 256 la lb lo i nb ∧ Below w.heap.size w wr)
    (fun iv _ => na - (intOf iv).toNat)
  case atStart => exact ⟨0, _, by omega, rfl, hown, Digs.replicate (by omega) _, TimesI.start _ _ _ _ _, hbel⟩
  case round =>
    obtain ⟨i, lo, hi, rfl, ho, hdo, hI, hbw⟩ := hrel
    by_cases hlt : i < na
    · obtain ⟨wo, rfl⟩ : ∃ wo : World, wo = wr := ⟨_, rfl⟩
      go_wp2
      go_loopw [7, 8] (fun cv kv wr => ∃ (k carry : Nat) (l2 : List Nat), k ≤ nb ∧ kv = .int .i64 k ∧ cv = .int .i64 carry ∧ carry < 256 ∧
          Own wr w.heap.size 3 .i64 (some ⟨w.heap.size, 0, none⟩) (na + nb) (na + nb) l2 ∧ Digs 256 l2 ∧ RowI 256 lo lb l2 i k (la.getD i 0) carry ∧ Below w.heap.size w wr)
        (fun _ kv _ => nb - (intOf kv).toNat)
      case atStart => exact ⟨0, 0, lo, by omega, rfl, rfl, by omega, ho, hdo, RowI.start _ _ _ _ _, hbw⟩
      case round =>
        obtain ⟨k, carry, l2, hk, rfl, rfl, hc, ho2, hdo2, hI2, hbw2⟩ := hrel
        obtain ⟨x, HX⟩ : ∃ x, Hid (la.getD i 0 = x) := ⟨_, rfl⟩
        rw [HX.out] at hI2
        by_cases hlt2 : k < nb
        · obtain ⟨b1, o1, x', rfl, hb1, hx, hxm, hcx⟩ := (ha.below (hbw2.mono hB)).cell hlt
          obtain rfl : x = x' := by rw [← hx]; exact HX.out.symm
          obtain ⟨b2, o2, y, rfl, hb2, hy, hym, hcy⟩ := (hb.below (hbw2.mono hB)).cell hlt2
          obtain ⟨z, hz, hzm, hcz⟩ := ho2.cell (show i + k < na + nb by omega)
          have hfz := ho2.frozen (i + k)
          have hx1 := hda x hxm
          have hy1 := hdb y hym
          have hz1 := hdo2 z hzm
          have hxy := u8_mul_le hx1 hy1
          have HY := hide hy
          have HZ := hide hz
          clear hx hy hz
          go_wp2_with fail
          go_quiet (fail)
          obtain ⟨t, HT, ht0, ht⟩ : ∃ t : Nat, Hid (carry + x * y + z = t) ∧ (z : Int) + (x : Int) * y + carry = t ∧ t < 65536 :=
            ⟨_, rfl, by rw [Int.natCast_add, Int.natCast_add, Int.natCast_mul]; omega, by omega⟩
          rw [ht0]
          go_wp2
          go_roundw
          case rel =>
            have hs := hI2.step (t := t) (by rw [ho2.len]; omega) HY.out HZ.out HT.out
            exact ⟨k + 1, t / 256, _, by omega, by go_num, by go_num, by omega, (ho2.drewN _).store (i + k) (t % 256) (by go_num), hdo2.set _ _ (by omega), by rw [HX.out]; exact hs, (below_drewN hbw2 _).setCell (Nat.le_refl _) _⟩
          case measure => simp [intOf] <;> omega
        · obtain rfl : k = nb := by omega
          obtain ⟨z, hz, hzm, hcz⟩ := ho2.cell (show i + k < na + k by omega)
          have hfz := ho2.frozen (i + k)
          have hs := hI.step (by omega) hI2 HX.out hb.len (by rw [ho2.len]; omega)
          obtain rfl : z = 0 := by rw [← hz, getD_of_drop hI2.1]; exact (val_drop_succ (by omega) hI.2).2
          clear hz
          go_wp2
          go_roundw
          case rel =>
            exact ⟨i + 1, _, by omega, by go_num, ho2.store (i + k) carry (by go_num), hdo2.set _ _ hc, hs, hbw2.setCell (Nat.le_refl _) _⟩
          case measure => simp [intOf] <;> omega
    · obtain rfl : i = na := by omega
      go_wp2_with (go_at_call 82; refine (rtrim_n _ _ _ _ _ _ ho.sl hdo).mono ?_; rintro e w' ⟨m, hm, rfl, ta, rfl⟩)
      go_ret
      rw [hI.done ha.len ho.len] at ta
      exact ⟨_, _, _, _, rfl, (ho.take hm).sl, ta, hbw, fun g hg => (ho.block g hg).1⟩
end Go.Proofs.Ytgilhkdmgbeieaa
