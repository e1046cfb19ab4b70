/- The contract of exact's split. -/
import Derived.Test.YtgilhkdmgbeieaaWd
import Derived.Test.YtgilhkdmgbeieaaMathB
namespace Go.Proofs.Ytgilhkdmgbeieaa
open Go.RowKit

/-- Two numbers in new memory. -/
def NatR2 (w : World) (N M : Nat) (e : Ending) (w' : World) : Prop :=
  ∃ g n c l g' n' c' l', e = .returned (.tuple #[.slice (some ⟨g, 0, none⟩) n c, .slice (some ⟨g', 0, none⟩) n' c']) ∧ Own w' w.heap.size 58 .u32 (some ⟨g, 0, none⟩) n c l ∧ Num 4294967296 l N ∧
    Own w' w.heap.size 58 .u32 (some ⟨g', 0, none⟩) n' c' l' ∧ Num 4294967296 l' M ∧ Below w.heap.size w w'

theorem u32_setbit (x r : Nat) (hx : x < 4294967296) (hr : r < 32) (h : x % 2 ^ (r + 1) = 0) : bits .or .u32 (x : Int) ((2 : Int) ^ r % 4294967296) = ((x + 2 ^ r : Nat) : Int) := by
  have h2 : 2 ^ r < 4294967296 := Nat.lt_of_lt_of_le (Nat.pow_lt_pow_right (by omega) hr) (Nat.le_refl _)
  have := u32_or_nat x (2 ^ r) hx h2
  rw [nat_join (r + 1) _ _ h (Nat.pow_lt_pow_right (by omega) (by omega))] at this
  rw [← this]
  have e : ((2 : Int) ^ r % 4294967296) = ((2 ^ r : Nat) : Int) := by
    have : ((2 ^ r : Nat) : Int) = (2 : Int) ^ r := by simp
    rw [← this]; omega
  rw [e]

set_option maxHeartbeats 3200000 in
theorem split_c (A : Option Addr) (na ca : Nat) (la : List Nat) (A' : Option Addr) (nb cb : Nat) (lb : List Nat) (w : World) (B : Nat) (ha : Sl w B .u32 A na ca la) (hb : Sl w B .u32 A' nb cb lb)
    (hB : B ≤ w.heap.size) (hda : Digs 4294967296 la) (hdb : Digs 4294967296 lb) (hna : na ≤ 1073741824) (hnb : nb ≤ 1073741824) (hpos : 0 < val 4294967296 lb) :
    Calls Try.prog 104 #[.slice A na ca, .slice A' nb cb] w (NatR2 w (val 4294967296 la / val 4294967296 lb) (val 4294967296 la % val 4294967296 lb)) := by
  obtain ⟨V, hV⟩ : ∃ V, val 4294967296 la = V := ⟨_, rfl⟩
  obtain ⟨D, hD⟩ : ∃ D, val 4294967296 lb = D := ⟨_, rfl⟩
  rw [hD] at hpos
  rw [hV, hD]
  have HV := hide hV
  have HD := hide hD
  clear hV hD
  have HV2 : Hid (bitsN V ≤ 32 * na) := (bitsN_le _ _).2 (by have := val_lt hda; rwa [HV.out, ha.len, show (4294967296 : Nat) = 2 ^ 32 from rfl, ← Nat.pow_mul] at this)
  go_enter Try.func104, Try.ntmps104
  go_wp2_with fail
  refine (trim_n _ _ _ _ _ _ hb hdb).mono ?_
  rintro e w' ⟨mb, hmb, rfl, tb, rfl⟩
  have sb := hb.take hmb
  rw [HD.out] at tb
  obtain ⟨m, hm⟩ : ∃ m, lb.take mb = m := ⟨_, rfl⟩
  rw [hm] at tb sb
  clear hm
  go_wp2_with (first
    | (at_make; refine wl_make _ rfl (.tmp 13) _ _ rfl 58 .u32 4 Try.underlying23 info_u32 (by omega) _ _ na rfl rfl (by omega) (by omega) (by omega) ?_; intro w1 hq hgr hsz)
    | (at_make; refine wl_make _ rfl (.tmp 17) _ _ rfl 58 .u32 4 Try.underlying23 info_u32 (by omega) _ _ (mb + 1) rfl rfl (by omega) (by omega) (by omega) ?_; intro w2 hr hgr2 hsz2))
  have hb1 : Below w.heap.size w w1 := (Below.refl _ _).grown hgr (Nat.le_refl _) (fun k hk => by cases hk)
  have hb2 : Below w.heap.size w w2 := hb1.grown hgr2 (by omega) (fun k hk => by cases hk)
  have hq2 := hq.grown hgr2 (fun g h => by simp)
  clear hgr hgr2 hq hb1
  refine (size_c _ _ _ _ _ _ (ha.below (hb2.mono hB)) hda (by omega)).mono ?_
  rintro e w' ⟨rfl, rfl⟩
  rw [HV.out]
  have HVV := HV2.out
  go_wp2
  go_loopw [8] (fun iv wr => ∃ (k Qv R : Nat) (lq lr : List Nat), iv = .int .i64 ((k : Int) - 1) ∧ k ≤ bitsN V ∧ Own wr w.heap.size 58 .u32 (some ⟨w.heap.size, 0, none⟩) na na lq ∧ Digs 4294967296 lq ∧ val 4294967296 lq = Qv ∧
      Own wr w1.heap.size 58 .u32 (some ⟨w1.heap.size, 0, none⟩) (mb + 1) (mb + 1) lr ∧ Digs 4294967296 lr ∧ val 4294967296 lr = R ∧ DivI V D k Qv R ∧ Below w.heap.size w wr)
    (fun iv _ => (intOf iv + 1).toNat)
  case atStart => exact ⟨bitsN V, 0, 0, _, _, rfl, Nat.le_refl _, hq2, Digs.replicate (by omega) _, val_replicate _ _, hr, Digs.replicate (by omega) _, val_replicate _ _, DivI.start hpos, hb2⟩
  case round =>
    obtain ⟨k, Qv, R, lq, lr, rfl, hk, hoq, hdq, hvq, hor, hdr, hvr, hI, hbw⟩ := hrel
    by_cases h0 : 0 < k
    · obtain ⟨j, rfl⟩ : ∃ j, k = j + 1 := ⟨k - 1, by omega⟩
      rw [show ((j + 1 : Nat) : Int) - 1 = (j : Int) from by omega]
      have hvq' := hide hvq
      have hvr' := hide hvr
      clear hvq hvr
      have hj : j / 32 < na := by omega
      have hbit : V / 2 ^ j % 2 < 2 := Nat.mod_lt _ (by omega)
      go_wp2_with fail
      refine (bit_c _ _ _ _ _ _ j (ha.below (hbw.mono hB)) hda hj (by omega)).mono ?_
      rintro e w' ⟨rfl, rfl⟩
      rw [HV.out]
      obtain ⟨bit, hbt⟩ : ∃ bit, V / 2 ^ j % 2 = bit := ⟨_, rfl⟩
      rw [hbt] at hbit ⊢
      have HBT := hide hbt
      clear hbt
      go_wp2_with fail
      refine (double_c _ _ _ _ _ _ bit hor hdr hbit (by omega)).mono ?_
      rintro e w3 ⟨rfl, lr2, hor2, hdr2, ⟨out, hout⟩, hgr3⟩
      rw [hvr'.out] at hout
      have HR2 := hide (dbl_out hout hI.1 (by have := tb.lt; rwa [sb.len] at this) hbit (by omega))
      clear hout
      have hoq2 := hoq.grown hgr3 (fun g h => by injection h with h; injection h with h; subst h; simp; omega)
      have hbw2 : Below w.heap.size w w3 := hbw.grown hgr3 hbw.size (fun k hk => by cases hk; omega)
      clear hgr3
      have hcmp := order_c _ _ _ _ _ _ _ _ w3 _ hor2.sl ((sb.below (hbw2.mono hB)).mono (by have := hbw2.size; omega)) hdr2 tb.dig
      rw [HR2.out, tb.val_] at hcmp
      by_cases hge : D ≤ 2 * R + bit
      · have hge' := ordI_nonneg hge
        go_wp2_with fail
        refine hcmp.mono ?_
        rintro e w' ⟨rfl, nq, rfl⟩
        clear hcmp
        go_wp2_with fail
        refine (minus_c _ _ _ _ _ _ _ _ (w3.drewN nq) _ (hor2.drewN nq).sl (((sb.below (hbw2.mono hB)).mono (show B ≤ w3.heap.size by have := hbw2.size; omega)).drewN nq) (Nat.le_refl _) hdr2 tb.dig (by omega) (by omega) (by rw [HR2.out, tb.val_]; exact hge)).mono ?_
        rintro e w4 ⟨Ad, nd, cd, ld, rfl, hod, hnd, hb4⟩
        have hb4' : Below w3.heap.size w3 w4 := ⟨hb4.os, hb4.tape, hb4.output, hb4.size, hb4.block⟩
        rw [HR2.out, tb.val_] at hnd
        have hor3 := hor2.below hb4' (Nat.le_refl _)
        have hoq3 := hoq2.below hb4' (Nat.le_refl _)
        have hbw3 : Below w.heap.size w w4 := hbw2.trans (hb4'.mono hbw2.size)
        clear hb4 hb4'
        have hlen : nd ≤ mb + 1 := by
          have h1 := (hnd.length_le (by omega) mb).2 (by have := tb.lt; rw [sb.len] at this; have := hI.1; omega)
          rw [hod.len] at h1; omega
        go_wp2_with (with_reducible refine wl_clear _ rfl _ _ rfl w1.heap.size 58 .u32 4 Try.underlying23 info_u32 _ _ _ _ rfl hor3 (by omega) ?_)
        intro w5 hor4 hgr5
        have hs3 : w.heap.size ≤ w3.heap.size := hbw2.size
        have hs13 : w1.heap.size < w3.heap.size := (hor2.lt rfl).2
        have hod5 := hod.grown hgr5 (fun g h => by have h1 := (hod.lt h).1; have h2 : w3.heap.size ≤ g := h1; simp; omega)
        have hoq5 := hoq3.grown hgr5 (fun g h => by injection h with h; injection h with h; subst h; simp; omega)
        have hbw5 : Below w.heap.size w w5 := hbw3.grown hgr5 hbw3.size (fun k hk => by cases hk; omega)
        clear hgr5 hoq3 hbw3 hor3 hod
        go_wp2_with (with_reducible refine wl_copy _ rfl _ _ _ _ rfl w1.heap.size 58 .u32 4 Try.underlying23 info_u32 _ _ _ _ rfl hor4 _ _ _ _ rfl _ hod5.sl ?_)
        intro w6 hor5 hgr6
        have hoq6 := hoq5.grown hgr6 (fun g h => by injection h with h; injection h with h; subst h; simp; omega)
        have hbw6 : Below w.heap.size w w6 := hbw5.grown hgr6 hbw5.size (fun k hk => by cases hk; omega)
        clear hgr6 hoq5 hbw5 hor4
        have e6 : ld.take (mb + 1) = ld := List.take_of_length_le (by rw [hod5.len]; exact hlen)
        rw [e6] at hor5
        have HR5 := hide ((val_zeros_append 4294967296 ld (mb + 1 - nd)).trans hnd.val_)
        have hdr5 : Digs 4294967296 (ld ++ List.replicate (mb + 1 - nd) 0) := hnd.dig.append (Digs.replicate (by omega) _)
        have hmod : lq.getD (j / 32) 0 % 2 ^ (j % 32 + 1) = 0 := by
          refine limb_mod lq j hdq ?_
          rw [hvq'.out]
          obtain ⟨_, Q, h2, _⟩ := hI
          rw [h2]; exact Nat.mul_mod_left _ _
        obtain ⟨x, hx, hxm, hcx⟩ := hoq6.cell hj
        have hx1 := hdq x hxm
        rw [hx] at hmod
        have HM := hide hmod
        have HX := hide hx
        have hfx := hoq6.frozen (j / 32)
        clear hx hmod
        have hj32 : j % 32 < 32 := Nat.mod_lt _ (by omega)
        go_wp2
        go_region
        all_goals go_wp2
        all_goals go_roundw
        case rel =>
          have o7 := (hoq6.store (j / 32) (x + 2 ^ (j % 32)) (v := .int .u32 (bits .or .u32 (x : Int) ((2 : Int) ^ (j % 32) % 4294967296))) (by rw [u32_setbit _ _ hx1 hj32 HM.out])).drew
          have hvs := val_setbit lq j x (by rw [hoq6.len]; exact hj) HX.out
          rw [hvq'.out] at hvs
          have hI2 := hI.yes (by rw [HBT.out]; exact hge)
          rw [HBT.out] at hI2
          exact ⟨j, _, _, _, _, rfl, by omega, o7, hdq.set _ _ (setbit_lt hx1 hj32 HM.out), hvs, (hor5.far (fun g h => by injection h with h; injection h with h; subst h; simp; omega) _).drew, hdr5, HR5.out, hI2, (hbw6.setCell (Nat.le_refl _) _).drew⟩
        case measure => simp [intOf] <;> omega
      · have hge' := ordI_neg (Nat.lt_of_not_le hge)
        go_wp2_with fail
        refine hcmp.mono ?_
        rintro e w' ⟨rfl, nq, rfl⟩
        clear hcmp
        go_wp2
        go_roundw
        case rel =>
          have hI2 := hI.no (by rw [HBT.out]; omega)
          rw [HBT.out] at hI2
          exact ⟨j, _, _, _, _, rfl, by omega, hoq2.drewN _, hdq, hvq'.out, hor2.drewN _, hdr2, HR2.out, hI2, below_drewN hbw2 _⟩
        case measure => simp [intOf] <;> omega
    · obtain rfl : k = 0 := by omega
      have hvq' := hide hvq
      have hvr' := hide hvr
      clear hvq hvr
      go_wp2_with fail
      refine (trim_n _ _ _ _ _ _ hoq.sl hdq).mono ?_
      rintro e w' ⟨mq, hmq, rfl, tq, rfl⟩
      go_wp2_with fail
      refine (clone_c _ _ _ _ _ _ hor.sl (Nat.le_refl _) hdr (by omega)).mono ?_
      rintro e w3 ⟨Ar, nr, cr, lr', rfl, hor', tr, hb3⟩
      go_wp2
      go_ret2
      have hd := hI.done
      rw [hvq'.out, hd.1] at tq
      rw [hvr'.out, hd.2] at tr
      exact ⟨_, _, _, _, _, _, _, _, rfl, (hoq.take hmq).below hb3 (Nat.le_refl _), tq, hor'.mono hbw.size, tr, hbw.trans (hb3.mono hbw.size)⟩
end Go.Proofs.Ytgilhkdmgbeieaa
