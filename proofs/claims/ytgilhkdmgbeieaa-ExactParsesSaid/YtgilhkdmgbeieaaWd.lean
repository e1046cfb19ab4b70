/- Contracts of exact's minus, half. -/
import Derived.Test.YtgilhkdmgbeieaaWb
namespace Go.Proofs.Ytgilhkdmgbeieaa
open Go.RowKit

set_option maxHeartbeats 1600000 in
theorem minus_c (A : Option Addr) (na ca : Nat) (la : List Nat) (A' : Option Addr) (nb cb : Nat) (lb : List Nat) (w : World) (B : Nat) (ha : Sl w B .u32 A na ca la) (hb : Sl w B .u32 A' nb cb lb)
    (hB : B ≤ w.heap.size) (hda : Digs 4294967296 la) (hdb : Digs 4294967296 lb) (hna : na ≤ 4294967296) (hnb : nb ≤ na) (hle : val 4294967296 lb ≤ val 4294967296 la) :
    Calls Try.prog 98 #[.slice A na ca, .slice A' nb cb] w (NatR w (val 4294967296 la - val 4294967296 lb)) := by
  have HLE := hide hle
  clear hle
  go_enter Try.func98, Try.ntmps98
  go_wp2_with (first
    | (at_make; refine wl_make _ rfl _ _ _ rfl 58 .u32 4 Try.underlying23 info_u32 (by omega) _ _ na rfl rfl (by omega) (by omega) (by omega) ?_; intro w1 hown hgr hsz))
  have hbel : Below w.heap.size w w1 := (Below.refl _ _).grown hgr (Nat.le_refl _) (fun k hk => by cases hk)
  clear hgr
  go_loopw [6, 14] (fun cv iv wr => ∃ (i borrow : Nat) (lo : List Nat), i ≤ na ∧ iv = .int .i64 i ∧ cv = .int .u64 borrow ∧ borrow < 2 ∧
      Own wr w.heap.size 58 .u32 (some ⟨w.heap.size, 0, none⟩) na na lo ∧ Digs 4294967296 lo ∧ MinusI 4294967296 la lb lo i borrow ∧ Below w.heap.size w wr)
    (fun _ iv _ => na - (intOf iv).toNat)
  case atStart => exact ⟨0, 0, _, by omega, rfl, rfl, by omega, hown, Digs.replicate (by omega) _, rfl, hbel⟩
  case round =>
    obtain ⟨i, borrow, lo, hi, rfl, rfl, hc, ho, hdo, hI, hbw⟩ := hrel
    by_cases hlt : i < na
    · obtain ⟨z, _, _, hcz⟩ := ho.cell hlt
      have hfz := ho.frozen i
      obtain ⟨b1, o1, x, rfl, hb1, hx, hxm, hcx⟩ := (ha.below (hbw.mono hB)).cell hlt
      have hx1 := hda x hxm
      have HX := hide hx
      clear hx
      rcases (hb.below (hbw.mono hB)).cell_or hdb (by omega) i with ⟨hib, b2, o2, y, rfl, hcy, HY, hy1⟩ | ⟨hib, y, hy0, HY, hy1⟩ <;>
      (have hcase : (borrow ≤ x ∧ y ≤ x - borrow) ∨ (borrow ≤ x ∧ x - borrow < y) ∨ x < borrow := by omega
       rcases hcase with ⟨hc1, hc2⟩ | ⟨hc1, hc2⟩ | hc1)
      all_goals go_wp2
      all_goals go_roundw
      case measure => simp [intOf] <;> omega
      case rel =>
        exact ⟨i + 1, 0, lo.set i (x - borrow - y), by omega, by go_num, by go_num, by omega, ho.store i _ (by go_num), hdo.set _ _ (by omega), hI.step (by rw [ho.len]; omega) HX.out HY.out (by omega), hbw.setCell (Nat.le_refl _) _⟩
      case rel =>
        exact ⟨i + 1, 1, lo.set i (x + 4294967296 - borrow - y), by omega, by go_num, congrArg (Value.int .u64) (by rw [u64_neg _ (by omega) (by omega)]; omega), by omega, ho.store i _ (congrArg (Value.int .u32) (by rw [u64_neg _ (by omega) (by omega)]; omega)), hdo.set _ _ (by omega), hI.step (by rw [ho.len]; omega) HX.out HY.out (by omega), hbw.setCell (Nat.le_refl _) _⟩
      case measure => simp [intOf] <;> omega
      case rel =>
        exact ⟨i + 1, 1, lo.set i (x + 4294967296 - borrow - y), by omega, by go_num, congrArg (Value.int .u64) (by rw [u64_neg ((x : Int) - borrow) (by omega) (by omega), IntWalk.u64_in _ (by omega)]; omega), by omega, ho.store i _ (congrArg (Value.int .u32) (by rw [u64_neg ((x : Int) - borrow) (by omega) (by omega), IntWalk.u64_in _ (by omega)]; omega)), hdo.set _ _ (by omega), hI.step (by rw [ho.len]; omega) HX.out HY.out (by omega), hbw.setCell (Nat.le_refl _) _⟩
      case measure => simp [intOf] <;> omega
      case rel =>
        exact ⟨i + 1, 0, lo.set i (x - borrow - y), by omega, by go_num, by go_num, by omega, ho.store i _ (by go_num), hdo.set _ _ (by omega), hI.step (by rw [ho.len]; omega) HX.out HY.out (by omega), hbw.setCell (Nat.le_refl _) _⟩
      case measure => simp [intOf] <;> omega
      case rel =>
        exact ⟨i + 1, 1, lo.set i (x + 4294967296 - borrow - y), by omega, by go_num, congrArg (Value.int .u64) (by rw [u64_neg _ (by omega) (by omega)]; omega), by omega, ho.store i _ (congrArg (Value.int .u32) (by rw [u64_neg _ (by omega) (by omega)]; omega)), hdo.set _ _ (by omega), hI.step (by rw [ho.len]; omega) HX.out HY.out (by omega), hbw.setCell (Nat.le_refl _) _⟩
      case measure => simp [intOf] <;> omega
    · obtain rfl : i = na := by omega
      go_wp2_with (go_at_call 85; refine (trim_n _ _ _ _ _ _ ho.sl hdo).mono ?_; rintro e w' ⟨m, hm, rfl, ta, rfl⟩)
      go_ret
      rw [hI.done (Nat.le_of_eq ha.len) (by rw [hb.len]; exact hnb) ho.len hdo HLE.out] at ta
      exact ⟨_, _, _, _, rfl, ho.take hm, ta, hbw⟩

set_option maxHeartbeats 800000 in
theorem half_c (g n c : Nat) (l : List Nat) (w : World) (base : Nat) (h : Own w base 58 .u32 (some ⟨g, 0, none⟩) n c l) (hd : Digs 4294967296 l) (hn : n ≤ 1099511627776) :
    Calls Try.prog 125 #[.slice (some ⟨g, 0, none⟩) n c] w fun e w' => ∃ m lo, e = .returned (.slice (some ⟨g, 0, none⟩) m c) ∧ m ≤ n ∧
      Own w' base 58 .u32 (some ⟨g, 0, none⟩) m c lo ∧ Num 4294967296 lo (val 4294967296 l / 2) ∧ w.grownBy w' (some g) := by
  go_enter Try.func125, Try.ntmps125
  go_wp2
  go_loopw [6] (fun iv wr => ∃ (i : Nat) (lo : List Nat), i ≤ n ∧ iv = .int .i64 i ∧
      Own wr base 58 .u32 (some ⟨g, 0, none⟩) n c lo ∧ Digs 4294967296 lo ∧ HalfI 4294967296 l lo i ∧ w.grownBy wr (some g))
    (fun iv _ => n - (intOf iv).toNat)
  case atStart => exact ⟨0, l, Nat.zero_le _, rfl, h, hd, HalfI.start _ _, World.grownBy.refl _ _⟩
  case round =>
    obtain ⟨i, lo, hi, rfl, ho, hdo, hI, hgr⟩ := hrel
    by_cases hlt : i < n
    · obtain ⟨x, hx, hxm, hcx⟩ := ho.cell hlt
      have hx1 := hdo x hxm
      have hfz := ho.frozen i
      have HX : Hid (l.getD i 0 = x) := by rw [← getD_of_drop hI.1]; exact hx
      clear hx
      by_cases hlt2 : i + 1 < n
      · obtain ⟨y, hy, hym, hcy⟩ := ho.cell hlt2
        have hy1 := hdo y hym
        have HY : Hid (l.getD (i + 1) 0 = y) := by rw [← getD_of_drop (drop_succ_of hI.1)]; exact hy
        clear hy
        go_wp2
        have o2 := ho.store (v := .int .u32 ((x : Int) / 2)) i (x / 2) (by go_num)
        have g2 := hgr.trans (grownBy_setCell wr g i (.int .u32 ((x : Int) / 2)))
        obtain ⟨w2, hw2⟩ : ∃ w2, wr.setCell ⟨g, i, none⟩ (.int .u32 ((x : Int) / 2)) = w2 := ⟨_, rfl⟩
        rw [hw2] at o2 g2 ⊢
        have c1 : w2.cell? ⟨g, i, none⟩ = some (.int .u32 ((x : Int) / 2)) := by
          obtain ⟨x', h1, _, h2⟩ := o2.cell hlt
          rw [h2]
          have : i < lo.length := by rw [ho.len]; exact hlt
          simp [this] at h1
          rw [← h1]; rfl
        have c2 : w2.cell? ⟨g, i + 1, none⟩ = some (.int .u32 (y : Int)) := by
          rw [← hw2, World.cell?_setCell_other _ _ _ _ (by simp)]; exact hcy
        have f2 := o2.frozen i
        clear hw2 hcx hcy hfz
        go_region
        all_goals go_wp2
        all_goals go_roundw
        case rel =>
          have o3 := (o2.store i (x / 2 + y % 2 * 2147483648) (v := .int .u32 (bits .or .u32 ((x : Int) / 2) ((y : Int) * 2147483648 % 4294967296))) (by rw [u32_half _ _ hx1])).drew
          rw [List.set_set] at o3
          exact ⟨i + 1, _, by omega, by go_num, o3, hdo.set _ _ (by omega), hI.step (by rw [ho.len]; omega) HX.out HY.out (by omega), grownBy_drew (g2.trans (grownBy_setCell _ _ _ _))⟩
        case measure => simp [intOf] <;> omega
      · have HY : Hid (l.getD (i + 1) 0 = 0) := by show l.getD (i + 1) 0 = 0; simp [show l.length ≤ i + 1 by rw [h.len]; omega]
        go_wp2
        go_roundw
        case rel =>
          exact ⟨i + 1, lo.set i (x / 2), by omega, by go_num, ho.store i _ (by go_num), hdo.set _ _ (by omega), hI.step (by rw [ho.len]; omega) HX.out HY.out (by omega), hgr.trans (grownBy_setCell _ _ _ _)⟩
        case measure => simp [intOf] <;> omega
    · obtain rfl : i = n := by omega
      go_wp2_with (go_at_call 85; refine (trim_n _ _ _ _ _ _ ho.sl hdo).mono ?_; rintro e w' ⟨m, hm, rfl, ta, rfl⟩)
      go_ret
      rw [hI.done rfl h.len ho.len] at ta
      exact ⟨_, _, rfl, hm, ho.take hm, ta, hgr⟩
end Go.Proofs.Ytgilhkdmgbeieaa
