/- Contracts of the reference's add, sub. -/
import Derived.Test.YtgilhkdmgbeieaaRa
import Derived.Test.YtgilhkdmgbeieaaMathR
namespace Go.Proofs.Ytgilhkdmgbeieaa
open Go.RowKit

set_option maxHeartbeats 1600000 in
theorem radd_c (A : Option Addr) (na ca : Nat) (la : List Nat) (A' : Option Addr) (nb cb : Nat) (lb : List Nat) (w : World) (B : Nat) (ha : Sl w B .i64 A na ca la) (hb : Sl w B .i64 A' nb cb lb)
    (hB : B ≤ w.heap.size) (hda : Digs 256 la) (hdb : Digs 256 lb) (hna : na ≤ 1073741824) (hnb : nb ≤ 1073741824) :
    Calls Try.prog 88 #[.slice A na ca, .slice A' nb cb] w (DigV w (val 256 la + val 256 lb)) := by
  go_enter Try.func88, Try.ntmps88
  go_wp2
  go_loopw [5, 6, 7] (fun ov cv iv wr => ∃ (i carry : Nat) (A0 : Option Addr) (n0 c0 : Nat) (lo : List Nat), i ≤ max na nb + 1 ∧ (0 < carry → i ≤ max na nb) ∧ iv = .int .i64 i ∧ cv = .int .i64 carry ∧ carry < 2 ∧ ov = .slice A0 n0 c0 ∧
      Own wr w.heap.size 3 .i64 A0 n0 c0 lo ∧ AddI 256 la lb lo i carry ∧ Below w.heap.size w wr)
    (fun _ _ iv _ => max na nb + 1 - (intOf iv).toNat)
  case atStart => exact ⟨0, 0, none, 0, 0, [], by omega, by omega, rfl, rfl, by omega, rfl, Own.nil _ _ _ _, AddI.start _ _ _, Below.refl _ _⟩
  case round =>
    obtain ⟨i, carry, A0, n0, c0, lo, hi, hci, rfl, rfl, hc, rfl, ho, hI, hbw⟩ := hrel
    have hn0 : n0 ≤ max na nb + 1 := by rw [← ho.len, hI.len]; exact hi
    have hz := hbw.size
    by_cases hgo : i < na ∨ i < nb ∨ 0 < carry
    · have him : i ≤ max na nb := by rcases hgo with h | h | h <;> omega
      rcases (ha.below (hbw.mono hB)).cell_or hda (by omega) i with ⟨hia, b1, o1, x, rfl, hcx, HX, hx1⟩ | ⟨hia, x, hx0, HX, hx1⟩ <;>
      rcases (hb.below (hbw.mono hB)).cell_or hdb (by omega) i with ⟨hib, b2, o2, y, rfl, hcy, HY, hy1⟩ | ⟨hib, y, hy0, HY, hy1⟩
      all_goals
        have hcp : i < na ∨ i < nb ∨ 0 < carry := hgo
        clear hgo
        have hq : na ≤ i → nb ≤ i → 0 < carry := fun h1 h2 => by omega
        clear hcp
        try have hq' := hq (by assumption) (by assumption)
        clear hq
        obtain ⟨t, HT, ht, ht1, ht2⟩ : ∃ t : Nat, Hid (carry + x + y = t) ∧ t ≤ 511 ∧ carry + x + y ≤ t ∧ t ≤ carry + x + y := ⟨_, rfl, by omega, by omega, by omega⟩
        go_wp2_with (first
          | (at_builtin; refine wl_append _ rfl (.tmp 44) (.tmp 47) _ rfl w.heap.size 3 .i64 8 Try.underlying82 info_int (by omega) A0 n0 c0 lo rfl (ho.alloc _) (some ⟨wr.heap.size, 0, none⟩) 1 1 [t % 256] rfl (wr.heap.size + 1) (Sl.oneI wr _ _ (t % 256) (congrArg (Value.int .i64) (by omega))) (by omega) (by simp; omega) ?_; intro A3 c3 w3 o3 hg3 hA3))
        go_roundw
        case rel =>
          refine ⟨i + 1, t / 256, A3, n0 + 1, c3, _, by omega, by omega, by go_num, by go_num, by omega, rfl, o3, hI.step (by omega) HX.out HY.out HT.out, ?_⟩
          exact (hbw.alloc hz _).grown hg3 (by simp; omega) (fun k hk => (ho.block k hk).1)
        case measure => simp [intOf] <;> omega
    · obtain rfl : carry = 0 := by omega
      have h1 : na ≤ i := by omega
      have h2 : nb ≤ i := by omega
      go_wp2_with (go_at_call 82; refine (rtrim_n _ _ _ _ _ _ ho.sl hI.dig).mono ?_; rintro e w' ⟨m, hm, rfl, ta, rfl⟩)
      go_ret
      rw [hI.done (by rw [ha.len]; exact h1) (by rw [hb.len]; exact h2)] at ta
      exact ⟨_, _, _, _, rfl, (ho.take hm).sl, ta, hbw, fun g hg => (ho.block g hg).1⟩

set_option maxHeartbeats 1600000 in
theorem rsub_c (A : Option Addr) (na ca : Nat) (la : List Nat) (A' : Option Addr) (nb cb : Nat) (lb : List Nat) (w : World) (B : Nat) (ha : Sl w B .i64 A na ca la) (hb : Sl w B .i64 A' nb cb lb)
    (hB : B ≤ w.heap.size) (hda : Digs 256 la) (hdb : Digs 256 lb) (hna : na ≤ 1073741824) (hnb : nb ≤ na) (hle : val 256 lb ≤ val 256 la) :
    Calls Try.prog 99 #[.slice A na ca, .slice A' nb cb] w (DigV w (val 256 la - val 256 lb)) := by
  have HLE := hide hle
  clear hle
  have hnn := ha.cap
  have hnm := ha.max
  go_enter Try.func99, Try.ntmps99
  go_wp2
  go_loopw [5, 6, 7] (fun ov cv iv wr => ∃ (i borrow : Nat) (A0 : Option Addr) (n0 c0 : Nat) (lo : List Nat), i ≤ na ∧ iv = .int .i64 i ∧ cv = .int .i64 borrow ∧ borrow < 2 ∧ ov = .slice A0 n0 c0 ∧
      Own wr w.heap.size 3 .i64 A0 n0 c0 lo ∧ SubI 256 la lb lo i borrow ∧ Below w.heap.size w wr)
    (fun _ _ iv _ => na - (intOf iv).toNat)
  case atStart => exact ⟨0, 0, none, 0, 0, [], by omega, rfl, rfl, by omega, rfl, Own.nil _ _ _ _, SubI.start _ _ _, Below.refl _ _⟩
  case round =>
    obtain ⟨i, borrow, A0, n0, c0, lo, hi, rfl, rfl, hc, rfl, ho, hI, hbw⟩ := hrel
    have hn0 : n0 ≤ na := by rw [← ho.len, hI.len]; exact hi
    have hz := hbw.size
    by_cases hlt : i < na
    · obtain ⟨b1, o1, x, rfl, hb1, hx, hxm, hcx⟩ := (ha.below (hbw.mono hB)).cell hlt
      have hx1 := hda x hxm
      have HX := hide hx
      clear hx
      rcases (hb.below (hbw.mono hB)).cell_or hdb (by omega) i with ⟨hib, b2, o2, y, rfl, hcy, HY, hy1⟩ | ⟨hib, y, hy0, HY, hy1⟩ <;>
      (have hcase : borrow + y ≤ x ∨ x < borrow + y := by omega
       rcases hcase with hcs | hcs)
      all_goals
        obtain ⟨z, bo, hz1, hz2, hz3, hz4⟩ : ∃ z bo : Nat, z + y + borrow ≤ x + 256 * bo ∧ x + 256 * bo ≤ z + y + borrow ∧ z < 256 ∧ bo < 2 := by
          first | exact ⟨x - borrow - y, 0, by omega, by omega, by omega, by omega⟩ | exact ⟨x + 256 - borrow - y, 1, by omega, by omega, by omega, by omega⟩
        go_wp2_with (first
          | (at_builtin; refine wl_append _ rfl (.tmp 35) (.tmp 37) _ rfl w.heap.size 3 .i64 8 Try.underlying82 info_int (by omega) A0 n0 c0 lo rfl (ho.alloc _) (some ⟨wr.heap.size, 0, none⟩) 1 1 [z] rfl (wr.heap.size + 1) (Sl.oneI wr _ _ z (congrArg (Value.int .i64) (by omega))) (by omega) (by simp; omega) ?_; intro A3 c3 w3 o3 hg3 hA3))
        go_roundw
        case rel =>
          refine ⟨i + 1, bo, A3, n0 + 1, c3, _, by omega, by go_num, congrArg (Value.int .i64) (by omega), hz4, rfl, o3, hI.step HX.out HY.out hz3 (by omega), ?_⟩
          exact (hbw.alloc hz _).grown hg3 (by simp; omega) (fun k hk => (ho.block k hk).1)
        case measure => simp [intOf] <;> omega
    · obtain rfl : i = na := by omega
      go_wp2_with (go_at_call 82; refine (rtrim_n _ _ _ _ _ _ ho.sl hI.dig).mono ?_; rintro e w' ⟨m, hm, rfl, ta, rfl⟩)
      go_ret
      rw [hI.done (by rw [ha.len]; omega) (by rw [hb.len]; exact hnb) HLE.out] at ta
      exact ⟨_, _, _, _, rfl, (ho.take hm).sl, ta, hbw, fun g hg => (ho.block g hg).1⟩
end Go.Proofs.Ytgilhkdmgbeieaa
