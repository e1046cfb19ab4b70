/- Contracts of exact's order. -/
import Derived.Test.YtgilhkdmgbeieaaWc
namespace Go.Proofs.Ytgilhkdmgbeieaa
open Go.RowKit


set_option maxHeartbeats 800000 in
theorem order_c (A : Option Addr) (na ca : Nat) (la : List Nat) (A' : Option Addr) (nb cb : Nat) (lb : List Nat) (w : World) (B : Nat) (ha : Sl w B .u32 A na ca la) (hb : Sl w B .u32 A' nb cb lb)
    (hda : Digs 4294967296 la) (hdb : Digs 4294967296 lb) :
    Calls Try.prog 80 #[.slice A na ca, .slice A' nb cb] w fun e w' => e = .returned (.int .i64 (ordI (val 4294967296 la) (val 4294967296 lb))) ∧ ∃ q, w' = w.drewN q := by
  obtain ⟨X, hX⟩ : ∃ X, val 4294967296 la = X := ⟨_, rfl⟩
  obtain ⟨Y, hY⟩ : ∃ Y, val 4294967296 lb = Y := ⟨_, rfl⟩
  have HX := hide hX
  have HY := hide hY
  rw [hX, hY]
  clear hX hY
  have hna := ha.max
  have hnb := hb.max
  have hca := ha.cap
  have hcb := hb.cap
  go_enter Try.func80, Try.ntmps80
  go_wp2_with fail
  refine (trim_n _ _ _ _ _ _ ha hda).mono ?_
  rintro e w' ⟨ma, hma, rfl, ta, rfl⟩
  go_wp2_with fail
  refine (trim_n _ _ _ _ _ _ hb hdb).mono ?_
  rintro e w' ⟨mb, hmb, rfl, tb, rfl⟩
  have sa := ha.take hma
  have sb := hb.take hmb
  rw [HX.out] at ta
  rw [HY.out] at tb
  obtain ⟨l, hl⟩ : ∃ l, la.take ma = l := ⟨_, rfl⟩
  obtain ⟨m, hm⟩ : ∃ m, lb.take mb = m := ⟨_, rfl⟩
  rw [hl] at ta sa
  rw [hm] at tb sb
  clear hl hm
  rcases Nat.lt_trichotomy ma mb with hlt | heq | hgt
  · go_wp2
    go_ret
    exact ⟨ret_int (ordI_lt (ta.lt_of_length tb (by omega) (by rw [sa.len, sb.len]; exact hlt))).symm, 0, rfl⟩
  · subst heq
    go_wp2
    go_loopw [5] (fun v wr => ∃ k : Nat, k ≤ ma ∧ v = .int .i64 ((k : Int) - 1) ∧ l.drop k = m.drop k ∧ ∃ q, wr = w.drewN q) (fun v _ => (intOf v + 1).toNat)
    case atStart => exact ⟨ma, Nat.le_refl _, rfl, by rw [List.drop_of_length_le (Nat.le_of_eq sa.len), List.drop_of_length_le (Nat.le_of_eq sb.len)], 0, rfl⟩
    case round =>
      obtain ⟨k, hk, rfl, hd, q, rfl⟩ := hrel
      by_cases h0 : 0 < k
      · obtain ⟨k, rfl⟩ : ∃ j, k = j + 1 := ⟨k - 1, by omega⟩
        obtain ⟨b1, o1, x, rfl, hb1, hx, hxm, hcx⟩ := sa.cell (i := k) (by omega)
        obtain ⟨b2, o2, y, rfl, hb2, hy, hym, hcy⟩ := sb.cell (i := k) (by omega)
        have HD := hide hd
        have hx1 := hide hx
        have hy1 := hide hy
        clear hd hx hy
        rw [show ((k + 1 : Nat) : Int) - 1 = (k : Int) from by omega]
        rcases Nat.lt_trichotomy x y with hlt | heq | hgt
        · go_wp2_with fail
          go_quiet (fail)
          go_wp2
          go_quiet (fail)
          go_wp2
          go_ret
          refine ⟨ret_int (ordI_lt ?_).symm, _, by rw [World.drewN_drewN, World.drewN_drewN]⟩
          rw [← ta.val_, ← tb.val_]
          exact val_lt_of_digit (by omega) ta.dig HD.out (by rw [hx1.out, hy1.out]; exact hlt)
        · go_wp2_with fail
          go_quiet (fail)
          go_wp2
          go_roundw
          case rel => exact ⟨k, by omega, rfl, drop_eq_succ HD.out (by rw [sa.len]; omega) (by rw [sb.len]; omega) (by rw [hx1.out, hy1.out]; exact heq), _, rfl⟩
          case measure => simp [intOf] <;> omega
        · go_wp2_with fail
          go_quiet (fail)
          go_wp2
          go_quiet (fail)
          go_wp2
          go_ret
          refine ⟨ret_int (ordI_gt ?_).symm, _, by rw [World.drewN_drewN, World.drewN_drewN]⟩
          rw [← ta.val_, ← tb.val_]
          exact val_lt_of_digit (by omega) tb.dig HD.out.symm (by rw [hx1.out, hy1.out]; exact hgt)
      · obtain rfl : k = 0 := by omega
        have HD := hide hd
        clear hd
        go_wp2
        go_ret
        refine ⟨ret_int (ordI_eq ?_).symm, _, rfl⟩
        have := HD.out
        simp at this
        rw [← ta.val_, ← tb.val_, this]
  · go_wp2
    go_ret
    exact ⟨ret_int (ordI_gt (tb.lt_of_length ta (by omega) (by rw [sa.len, sb.len]; exact hgt))).symm, 0, rfl⟩
end Go.Proofs.Ytgilhkdmgbeieaa
