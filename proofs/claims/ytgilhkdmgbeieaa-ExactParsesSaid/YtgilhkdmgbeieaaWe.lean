/- The contract of exact's times. -/
import Derived.Test.YtgilhkdmgbeieaaWa
import Derived.Test.YtgilhkdmgbeieaaMathB
namespace Go.Proofs.Ytgilhkdmgbeieaa
open Go.RowKit

theorem u32_mul_le {x y : Nat} (hx : x < 4294967296) (hy : y < 4294967296) : x * y ≤ 18446744065119617025 :=
  Nat.mul_le_mul (show x ≤ 4294967295 by omega) (show y ≤ 4294967295 by omega)

set_option maxHeartbeats 1600000 in
theorem times_c (A : Option Addr) (na ca : Nat) (la : List Nat) (A' : Option Addr) (nb cb : Nat) (lb : List Nat) (w : World) (B : Nat) (ha : Sl w B .u32 A na ca la) (hb : Sl w B .u32 A' nb cb lb)
    (hB : B ≤ w.heap.size) (hda : Digs 4294967296 la) (hdb : Digs 4294967296 lb) (hna : na ≤ 1073741824) (hnb : nb ≤ 1073741824) :
    Calls Try.prog 89 #[.slice A na ca, .slice A' nb cb] w (NatR w (val 4294967296 la * val 4294967296 lb)) := by
  go_enter Try.func89, Try.ntmps89
  go_wp2_with (first
    | (at_make; refine wl_make _ rfl _ _ _ rfl 58 .u32 4 Try.underlying23 info_u32 (by omega) _ _ (na + nb) rfl rfl (by omega) (by omega) (by omega) ?_; intro w1 hown hgr hsz))
  have hbel : Below w.heap.size w w1 := (Below.refl _ _).grown hgr (Nat.le_refl _) (fun k hk => by cases hk)
  clear hgr
  go_loopw [17] (fun iv wr => ∃ (i : Nat) (lo : List Nat), i ≤ na ∧ iv = .int .i64 i ∧
      Own wr w.heap.size 58 .u32 (some ⟨w.heap.size, 0, none⟩) (na + nb) (na + nb) lo ∧ Digs 4294967296 lo ∧ TimesI 4294967296 la lb lo i nb ∧ Below w.heap.size w wr)
    (fun iv _ => na - (intOf iv).toNat)
  case atStart => exact ⟨0, _, by omega, rfl, hown, Digs.replicate (by omega) _, TimesI.start _ _ _ _ _, hbel⟩
  case round =>
    obtain ⟨i, lo, hi, rfl, ho, hdo, hI, hbw⟩ := hrel
    by_cases hlt : i < na
    · obtain ⟨wo, rfl⟩ : ∃ wo : World, wo = wr := ⟨_, rfl⟩
      go_wp2
      go_loopw [7, 22] (fun cv kv wr => ∃ (k carry : Nat) (l2 : List Nat), k ≤ nb ∧ kv = .int .i64 k ∧ cv = .int .u64 carry ∧ carry < 4294967296 ∧
          Own wr w.heap.size 58 .u32 (some ⟨w.heap.size, 0, none⟩) (na + nb) (na + nb) l2 ∧ Digs 4294967296 l2 ∧ RowI 4294967296 lo lb l2 i k (la.getD i 0) carry ∧ Below w.heap.size w wr)
        (fun _ kv _ => nb - (intOf kv).toNat)
      case atStart => exact ⟨0, 0, lo, by omega, rfl, rfl, by omega, ho, hdo, RowI.start _ _ _ _ _, hbw⟩
      case round =>
        obtain ⟨k, carry, l2, hk, rfl, rfl, hc, ho2, hdo2, hI2, hbw2⟩ := hrel
        obtain ⟨x, HX⟩ : ∃ x, Hid (la.getD i 0 = x) := ⟨_, rfl⟩
        rw [HX.out] at hI2
        by_cases hlt2 : k < nb
        · obtain ⟨b1, o1, x', rfl, hb1, hx, hxm, hcx⟩ := (ha.below (hbw2.mono hB)).cell hlt
          obtain rfl : x = x' := by rw [← hx]; exact HX.out.symm
          obtain ⟨b2, o2, y, rfl, hb2, hy, hym, hcy⟩ := (hb.below (hbw2.mono hB)).cell hlt2
          obtain ⟨z, hz, hzm, hcz⟩ := ho2.cell (show i + k < na + nb by omega)
          have hfz := ho2.frozen (i + k)
          have hx1 := hda x hxm
          have hy1 := hdb y hym
          have hz1 := hdo2 z hzm
          have hxy := u32_mul_le hx1 hy1
          have HY := hide hy
          have HZ := hide hz
          clear hx hy hz
          go_wp2_with fail
          go_quiet (fail)
          go_wp2
          go_roundw
          case rel =>
            have hs := hI2.step (t := carry + x * y + z) (by rw [ho2.len]; omega) HY.out HZ.out rfl
            have et : ((carry : Int) + ((x : Int) * y + z)) = ((carry + x * y + z : Nat) : Int) := by rw [Int.natCast_add, Int.natCast_add, Int.natCast_mul]; omega
            have ht : carry + x * y + z < 18446744073709551616 := by omega
            obtain ⟨t, et2⟩ : ∃ t, carry + x * y + z = t := ⟨_, rfl⟩
            rw [et2] at hs et ht
            rw [et]
            exact ⟨k + 1, t / 4294967296, _, by omega, by go_num, by go_num, by omega, (ho2.store (i + k) (t % 4294967296) (by go_num)).drewN _, hdo2.set _ _ (by omega), by rw [HX.out]; exact hs, below_drewN (hbw2.setCell (Nat.le_refl _) _) _⟩
          case measure => simp [intOf] <;> omega
        · obtain rfl : k = nb := by omega
          obtain ⟨z, hz, hzm, hcz⟩ := ho2.cell (show i + k < na + k by omega)
          have hfz := ho2.frozen (i + k)
          clear hz
          go_wp2
          go_roundw
          case rel =>
            have hs := hI.step (by omega) hI2 HX.out hb.len (by rw [ho2.len]; omega)
            exact ⟨i + 1, _, by omega, by go_num, ho2.store (i + k) carry (by go_num), hdo2.set _ _ hc, hs, hbw2.setCell (Nat.le_refl _) _⟩
          case measure => simp [intOf] <;> omega
    · obtain rfl : i = na := by omega
      go_wp2_with (go_at_call 85; refine (trim_n _ _ _ _ _ _ ho.sl hdo).mono ?_; rintro e w' ⟨m, hm, rfl, ta, rfl⟩)
      go_ret
      rw [hI.done ha.len ho.len] at ta
      exact ⟨_, _, _, _, rfl, ho.take hm, ta, hbw⟩
end Go.Proofs.Ytgilhkdmgbeieaa
