/- Contracts of exact's order. Contracts of exact's minus, half. Products of numbers as lists of digits: plain lemmas. The contract of exact's split. -/
import Derived.Test.YtchhkokpjdkkiaaTopDisclosesa05
namespace Go.Proofs.Ytchhkokpjdkkiaa.Ex
open Go.RowKit


set_option maxHeartbeats 800000 in
theorem order_c (A : Option Addr) (na ca : Nat) (la : List Nat) (A' : Option Addr) (nb cb : Nat) (lb : List Nat) (w : World) (B : Nat) (ha : Sl w B .u32 A na ca la) (hb : Sl w B .u32 A' nb cb lb)
    (hda : Digs 4294967296 la) (hdb : Digs 4294967296 lb) :
    Calls Try.prog 117 #[.slice A na ca, .slice A' nb cb] w fun e w' => e = .returned (.int .i64 (ordI (val 4294967296 la) (val 4294967296 lb))) ∧ ∃ q, w' = w.drewN q := by
  obtain ⟨X, hX⟩ : ∃ X, val 4294967296 la = X := ⟨_, rfl⟩
  obtain ⟨Y, hY⟩ : ∃ Y, val 4294967296 lb = Y := ⟨_, rfl⟩
  have HX := hide hX
  have HY := hide hY
  rw [hX, hY]
  clear hX hY
  have hna := ha.max
  have hnb := hb.max
  have hca := ha.cap
  have hcb := hb.cap
  go_enter Try.func117, Try.ntmps117
  go_wp2_with fail
  refine (trim_n _ _ _ _ _ _ ha hda).mono ?_
  rintro e w' ⟨ma, hma, rfl, ta, rfl⟩
  go_wp2_with fail
  refine (trim_n _ _ _ _ _ _ hb hdb).mono ?_
  rintro e w' ⟨mb, hmb, rfl, tb, rfl⟩
  have sa := ha.take hma
  have sb := hb.take hmb
  rw [HX.out] at ta
  rw [HY.out] at tb
  obtain ⟨l, hl⟩ : ∃ l, la.take ma = l := ⟨_, rfl⟩
  obtain ⟨m, hm⟩ : ∃ m, lb.take mb = m := ⟨_, rfl⟩
  rw [hl] at ta sa
  rw [hm] at tb sb
  clear hl hm
  rcases Nat.lt_trichotomy ma mb with hlt | heq | hgt
  · go_wp2
    go_ret
    exact ⟨ret_int (ordI_lt (ta.lt_of_length tb (by omega) (by rw [sa.len, sb.len]; exact hlt))).symm, 0, rfl⟩
  · subst heq
    go_wp2
    go_loopw [5] (fun v wr => ∃ k : Nat, k ≤ ma ∧ v = .int .i64 ((k : Int) - 1) ∧ l.drop k = m.drop k ∧ ∃ q, wr = w.drewN q) (fun v _ => (intOf v + 1).toNat)
    case atStart => exact ⟨ma, Nat.le_refl _, rfl, by rw [List.drop_of_length_le (Nat.le_of_eq sa.len), List.drop_of_length_le (Nat.le_of_eq sb.len)], 0, rfl⟩
    case round =>
      obtain ⟨k, hk, rfl, hd, q, rfl⟩ := hrel
      by_cases h0 : 0 < k
      · obtain ⟨k, rfl⟩ : ∃ j, k = j + 1 := ⟨k - 1, by omega⟩
        obtain ⟨b1, o1, x, rfl, hb1, hx, hxm, hcx⟩ := sa.cell (i := k) (by omega)
        obtain ⟨b2, o2, y, rfl, hb2, hy, hym, hcy⟩ := sb.cell (i := k) (by omega)
        have HD := hide hd
        have hx1 := hide hx
        have hy1 := hide hy
        clear hd hx hy
        rw [show ((k + 1 : Nat) : Int) - 1 = (k : Int) from by omega]
        rcases Nat.lt_trichotomy x y with hlt | heq | hgt
        · go_wp2_with fail
          go_quiet (fail)
          go_wp2
          go_quiet (fail)
          go_wp2
          go_ret
          refine ⟨ret_int (ordI_lt ?_).symm, _, by rw [World.drewN_drewN, World.drewN_drewN]⟩
          rw [← ta.val_, ← tb.val_]
          exact val_lt_of_digit (by omega) ta.dig HD.out (by rw [hx1.out, hy1.out]; exact hlt)
        · go_wp2_with fail
          go_quiet (fail)
          go_wp2
          go_roundw
          case rel => exact ⟨k, by omega, rfl, drop_eq_succ HD.out (by rw [sa.len]; omega) (by rw [sb.len]; omega) (by rw [hx1.out, hy1.out]; exact heq), _, rfl⟩
          case measure => simp [intOf] <;> omega
        · go_wp2_with fail
          go_quiet (fail)
          go_wp2
          go_quiet (fail)
          go_wp2
          go_ret
          refine ⟨ret_int (ordI_gt ?_).symm, _, by rw [World.drewN_drewN, World.drewN_drewN]⟩
          rw [← ta.val_, ← tb.val_]
          exact val_lt_of_digit (by omega) tb.dig HD.out.symm (by rw [hx1.out, hy1.out]; exact hgt)
      · obtain rfl : k = 0 := by omega
        have HD := hide hd
        clear hd
        go_wp2
        go_ret
        refine ⟨ret_int (ordI_eq ?_).symm, _, rfl⟩
        have := HD.out
        simp at this
        rw [← ta.val_, ← tb.val_, this]
  · go_wp2
    go_ret
    exact ⟨ret_int (ordI_gt (tb.lt_of_length ta (by omega) (by rw [sa.len, sb.len]; exact hgt))).symm, 0, rfl⟩
end Go.Proofs.Ytchhkokpjdkkiaa.Ex

namespace Go.Proofs.Ytchhkokpjdkkiaa.Ex
open Go.RowKit

set_option maxHeartbeats 1600000 in
theorem minus_c (A : Option Addr) (na ca : Nat) (la : List Nat) (A' : Option Addr) (nb cb : Nat) (lb : List Nat) (w : World) (B : Nat) (ha : Sl w B .u32 A na ca la) (hb : Sl w B .u32 A' nb cb lb)
    (hB : B ≤ w.heap.size) (hda : Digs 4294967296 la) (hdb : Digs 4294967296 lb) (hna : na ≤ 4294967296) (hnb : nb ≤ na) (hle : val 4294967296 lb ≤ val 4294967296 la) :
    Calls Try.prog 133 #[.slice A na ca, .slice A' nb cb] w (NatR w (val 4294967296 la - val 4294967296 lb)) := by
  have HLE := hide hle
  clear hle
  go_enter Try.func133, Try.ntmps133
  go_wp2_with (first
    | (at_make; refine wl_make _ rfl _ _ _ rfl 184 .u32 4 Try.underlying129 info_u32 (by omega) _ _ na rfl rfl (by omega) (by omega) (by omega) ?_; intro w1 hown hgr hsz))
  have hbel : Below w.heap.size w w1 := (Below.refl _ _).grown hgr (Nat.le_refl _) (fun k hk => by cases hk)
  clear hgr
  go_loopw [6, 14] (fun cv iv wr => ∃ (i borrow : Nat) (lo : List Nat), i ≤ na ∧ iv = .int .i64 i ∧ cv = .int .u64 borrow ∧ borrow < 2 ∧
      Own wr w.heap.size 184 .u32 (some ⟨w.heap.size, 0, none⟩) na na lo ∧ Digs 4294967296 lo ∧ MinusI 4294967296 la lb lo i borrow ∧ Below w.heap.size w wr)
    (fun _ iv _ => na - (intOf iv).toNat)
  case atStart => exact ⟨0, 0, _, by omega, rfl, rfl, by omega, hown, Digs.replicate (by omega) _, rfl, hbel⟩
  case round =>
    obtain ⟨i, borrow, lo, hi, rfl, rfl, hc, ho, hdo, hI, hbw⟩ := hrel
    by_cases hlt : i < na
    · obtain ⟨z, _, _, hcz⟩ := ho.cell hlt
      have hfz := ho.frozen i
      obtain ⟨b1, o1, x, rfl, hb1, hx, hxm, hcx⟩ := (ha.below (hbw.mono hB)).cell hlt
      have hx1 := hda x hxm
      have HX := hide hx
      clear hx
      rcases (hb.below (hbw.mono hB)).cell_or hdb (by omega) i with ⟨hib, b2, o2, y, rfl, hcy, HY, hy1⟩ | ⟨hib, y, hy0, HY, hy1⟩ <;>
      (have hcase : (borrow ≤ x ∧ y ≤ x - borrow) ∨ (borrow ≤ x ∧ x - borrow < y) ∨ x < borrow := by omega
       rcases hcase with ⟨hc1, hc2⟩ | ⟨hc1, hc2⟩ | hc1)
      all_goals go_wp2
      all_goals go_roundw
      case measure => simp [intOf] <;> omega
      case rel =>
        exact ⟨i + 1, 0, lo.set i (x - borrow - y), by omega, by go_num, by go_num, by omega, ho.store i _ (by go_num), hdo.set _ _ (by omega), hI.step (by rw [ho.len]; omega) HX.out HY.out (by omega), hbw.setCell (Nat.le_refl _) _⟩
      case rel =>
        exact ⟨i + 1, 1, lo.set i (x + 4294967296 - borrow - y), by omega, by go_num, congrArg (Value.int .u64) (by rw [u64_neg _ (by omega) (by omega)]; omega), by omega, ho.store i _ (congrArg (Value.int .u32) (by rw [u64_neg _ (by omega) (by omega)]; omega)), hdo.set _ _ (by omega), hI.step (by rw [ho.len]; omega) HX.out HY.out (by omega), hbw.setCell (Nat.le_refl _) _⟩
      case measure => simp [intOf] <;> omega
      case rel =>
        exact ⟨i + 1, 1, lo.set i (x + 4294967296 - borrow - y), by omega, by go_num, congrArg (Value.int .u64) (by rw [u64_neg ((x : Int) - borrow) (by omega) (by omega), IntWalk.u64_in _ (by omega)]; omega), by omega, ho.store i _ (congrArg (Value.int .u32) (by rw [u64_neg ((x : Int) - borrow) (by omega) (by omega), IntWalk.u64_in _ (by omega)]; omega)), hdo.set _ _ (by omega), hI.step (by rw [ho.len]; omega) HX.out HY.out (by omega), hbw.setCell (Nat.le_refl _) _⟩
      case measure => simp [intOf] <;> omega
      case rel =>
        exact ⟨i + 1, 0, lo.set i (x - borrow - y), by omega, by go_num, by go_num, by omega, ho.store i _ (by go_num), hdo.set _ _ (by omega), hI.step (by rw [ho.len]; omega) HX.out HY.out (by omega), hbw.setCell (Nat.le_refl _) _⟩
      case measure => simp [intOf] <;> omega
      case rel =>
        exact ⟨i + 1, 1, lo.set i (x + 4294967296 - borrow - y), by omega, by go_num, congrArg (Value.int .u64) (by rw [u64_neg _ (by omega) (by omega)]; omega), by omega, ho.store i _ (congrArg (Value.int .u32) (by rw [u64_neg _ (by omega) (by omega)]; omega)), hdo.set _ _ (by omega), hI.step (by rw [ho.len]; omega) HX.out HY.out (by omega), hbw.setCell (Nat.le_refl _) _⟩
      case measure => simp [intOf] <;> omega
    · obtain rfl : i = na := by omega
      go_wp2_with (go_at_call 119; refine (trim_n _ _ _ _ _ _ ho.sl hdo).mono ?_; rintro e w' ⟨m, hm, rfl, ta, rfl⟩)
      go_ret
      rw [hI.done (Nat.le_of_eq ha.len) (by rw [hb.len]; exact hnb) ho.len hdo HLE.out] at ta
      exact ⟨_, _, _, _, rfl, ho.take hm, ta, hbw⟩

set_option maxHeartbeats 800000 in
theorem half_c (g n c : Nat) (l : List Nat) (w : World) (base : Nat) (h : Own w base 184 .u32 (some ⟨g, 0, none⟩) n c l) (hd : Digs 4294967296 l) (hn : n ≤ 1099511627776) :
    Calls Try.prog 132 #[.slice (some ⟨g, 0, none⟩) n c] w fun e w' => ∃ m lo, e = .returned (.slice (some ⟨g, 0, none⟩) m c) ∧ m ≤ n ∧
      Own w' base 184 .u32 (some ⟨g, 0, none⟩) m c lo ∧ Num 4294967296 lo (val 4294967296 l / 2) ∧ w.grownBy w' (some g) := by
  go_enter Try.func132, Try.ntmps132
  go_wp2
  go_loopw [6] (fun iv wr => ∃ (i : Nat) (lo : List Nat), i ≤ n ∧ iv = .int .i64 i ∧
      Own wr base 184 .u32 (some ⟨g, 0, none⟩) n c lo ∧ Digs 4294967296 lo ∧ HalfI 4294967296 l lo i ∧ w.grownBy wr (some g))
    (fun iv _ => n - (intOf iv).toNat)
  case atStart => exact ⟨0, l, Nat.zero_le _, rfl, h, hd, HalfI.start _ _, World.grownBy.refl _ _⟩
  case round =>
    obtain ⟨i, lo, hi, rfl, ho, hdo, hI, hgr⟩ := hrel
    by_cases hlt : i < n
    · obtain ⟨x, hx, hxm, hcx⟩ := ho.cell hlt
      have hx1 := hdo x hxm
      have hfz := ho.frozen i
      have HX : Hid (l.getD i 0 = x) := by rw [← getD_of_drop hI.1]; exact hx
      clear hx
      by_cases hlt2 : i + 1 < n
      · obtain ⟨y, hy, hym, hcy⟩ := ho.cell hlt2
        have hy1 := hdo y hym
        have HY : Hid (l.getD (i + 1) 0 = y) := by rw [← getD_of_drop (drop_succ_of hI.1)]; exact hy
        clear hy
        go_wp2
        have o2 := ho.store (v := .int .u32 ((x : Int) / 2)) i (x / 2) (by go_num)
        have g2 := hgr.trans (grownBy_setCell wr g i (.int .u32 ((x : Int) / 2)))
        obtain ⟨w2, hw2⟩ : ∃ w2, wr.setCell ⟨g, i, none⟩ (.int .u32 ((x : Int) / 2)) = w2 := ⟨_, rfl⟩
        rw [hw2] at o2 g2 ⊢
        have c1 : w2.cell? ⟨g, i, none⟩ = some (.int .u32 ((x : Int) / 2)) := by
          obtain ⟨x', h1, _, h2⟩ := o2.cell hlt
          rw [h2]
          have : i < lo.length := by rw [ho.len]; exact hlt
          simp [this] at h1
          rw [← h1]; rfl
        have c2 : w2.cell? ⟨g, i + 1, none⟩ = some (.int .u32 (y : Int)) := by
          rw [← hw2, World.cell?_setCell_other _ _ _ _ (by simp)]; exact hcy
        have f2 := o2.frozen i
        clear hw2 hcx hcy hfz
        go_region
        all_goals go_wp2
        all_goals go_roundw
        case rel =>
          have o3 := (o2.store i (x / 2 + y % 2 * 2147483648) (v := .int .u32 (bits .or .u32 ((x : Int) / 2) ((y : Int) * 2147483648 % 4294967296))) (by rw [u32_half _ _ hx1])).drew
          rw [List.set_set] at o3
          exact ⟨i + 1, _, by omega, by go_num, o3, hdo.set _ _ (by omega), hI.step (by rw [ho.len]; omega) HX.out HY.out (by omega), grownBy_drew (g2.trans (grownBy_setCell _ _ _ _))⟩
        case measure => simp [intOf] <;> omega
      · have HY : Hid (l.getD (i + 1) 0 = 0) := by show l.getD (i + 1) 0 = 0; simp [show l.length ≤ i + 1 by rw [h.len]; omega]
        go_wp2
        go_roundw
        case rel =>
          exact ⟨i + 1, lo.set i (x / 2), by omega, by go_num, ho.store i _ (by go_num), hdo.set _ _ (by omega), hI.step (by rw [ho.len]; omega) HX.out HY.out (by omega), hgr.trans (grownBy_setCell _ _ _ _)⟩
        case measure => simp [intOf] <;> omega
    · obtain rfl : i = n := by omega
      go_wp2_with (go_at_call 119; refine (trim_n _ _ _ _ _ _ ho.sl hdo).mono ?_; rintro e w' ⟨m, hm, rfl, ta, rfl⟩)
      go_ret
      rw [hI.done rfl h.len ho.len] at ta
      exact ⟨_, _, rfl, hm, ho.take hm, ta, hgr⟩
end Go.Proofs.Ytchhkokpjdkkiaa.Ex

namespace Go.Proofs.Ytchhkokpjdkkiaa.Ex

theorem val_drop_succ {b : Nat} (hb : 0 < b) {l : List Nat} {i : Nat} (h : val b (l.drop i) = 0) : val b (l.drop (i + 1)) = 0 ∧ l.getD i 0 = 0 := by
  rcases Nat.lt_or_ge i l.length with hi | hi
  · rw [List.drop_eq_getElem_cons hi] at h
    simp only [val] at h
    have h1 : l[i] = 0 := by omega
    have h2 : b * val b (l.drop (i + 1)) = 0 := by omega
    rcases Nat.mul_eq_zero.1 h2 with h3 | h3
    · omega
    · exact ⟨h3, by simp [hi, h1]⟩
  · exact ⟨by rw [List.drop_of_length_le (by omega)]; rfl, by simp [hi]⟩

/-- A row of a product: k digits of it are done. 'lo0' is what stood there before. -/
def RowI (b : Nat) (lo0 lb lo : List Nat) (i k x carry : Nat) : Prop :=
  lo.drop (i + k) = lo0.drop (i + k) ∧ val b (lo.take (i + k)) + b ^ (i + k) * carry = val b (lo0.take (i + k)) + b ^ i * (x * val b (lb.take k))
theorem RowI.start (b : Nat) (lo lb : List Nat) (i x : Nat) : RowI b lo lb lo i 0 x 0 := ⟨rfl, by simp [val]⟩
theorem RowI.step {b : Nat} {lo0 lb lo : List Nat} {i k x carry y z t : Nat} (h : RowI b lo0 lb lo i k x carry) (hi : i + k < lo.length) (hy : lb.getD k 0 = y) (hz : lo.getD (i + k) 0 = z)
    (ht : carry + x * y + z = t) : RowI b lo0 lb (lo.set (i + k) (t % b)) i (k + 1) x (t / b) := by
  obtain ⟨h1, h2⟩ := h
  have hz0 : lo0.getD (i + k) 0 = z := by rw [← getD_of_drop h1]; exact hz
  refine ⟨by rw [← Nat.add_assoc, drop_set_succ]; exact drop_succ_of h1, ?_⟩
  rw [← Nat.add_assoc, take_set_succ _ _ _ hi, val_append, val_take_succ b lo0, val_take_succ b lb, List.length_take, Nat.min_eq_left (by omega), Nat.pow_succ, hy, hz0]
  have e := Nat.div_add_mod t b
  have e2 : b ^ (i + k) = b ^ i * b ^ k := Nat.pow_add _ _ _
  generalize t % b = r at *
  generalize t / b = q at *
  rw [e2] at h2 ⊢
  simp only [val]
  subst ht
  generalize b ^ i = p at *
  generalize b ^ k = p' at *
  generalize val b (List.take (i + k) lo) = v1 at *
  generalize val b (List.take (i + k) lo0) = v2 at *
  generalize val b (List.take k lb) = v3 at *
  grind

/-- A product: i rows are done. -/
def TimesI (b : Nat) (la lb lo : List Nat) (i nb : Nat) : Prop :=
  val b (lo.take (i + nb)) = val b (la.take i) * val b lb ∧ val b (lo.drop (i + nb)) = 0
theorem TimesI.start (b : Nat) (la lb : List Nat) (n nb : Nat) : TimesI b la lb (List.replicate n 0) 0 nb := by
  refine ⟨?_, ?_⟩
  · rw [List.take_replicate, val_replicate]; simp [val]
  · rw [List.drop_replicate, val_replicate]
theorem TimesI.step {b : Nat} {la lb lo0 lo : List Nat} {i nb x carry : Nat} (hb : 0 < b) (h : TimesI b la lb lo0 i nb) (hr : RowI b lo0 lb lo i nb x carry) (hx : la.getD i 0 = x) (hlb : lb.length = nb) (hi : i + nb < lo.length) :
    TimesI b la lb (lo.set (i + nb) carry) (i + 1) nb := by
  obtain ⟨h1, h2⟩ := h
  obtain ⟨r1, r2⟩ := hr
  rw [List.take_of_length_le (Nat.le_of_eq hlb)] at r2
  refine ⟨?_, ?_⟩
  · rw [show i + 1 + nb = i + nb + 1 by omega, take_set_succ _ _ _ hi, val_append, val_take_succ b la, List.length_take, Nat.min_eq_left (by omega), hx]
    simp only [val]
    grind
  · rw [show i + 1 + nb = i + nb + 1 by omega, drop_set_succ, drop_succ_of r1]
    exact (val_drop_succ hb h2).1
theorem TimesI.done {b : Nat} {la lb lo : List Nat} {na nb : Nat} (h : TimesI b la lb lo na nb) (ha : la.length = na) (hl : lo.length = na + nb) : val b lo = val b la * val b lb := by
  have h1 := h.1
  rwa [List.take_of_length_le (by omega), List.take_of_length_le (by omega)] at h1
/-- A division, bit by bit: k bits are left. -/
def DivI (V D k Qv R : Nat) : Prop := R < D ∧ ∃ Q, Qv = Q * 2 ^ k ∧ V / 2 ^ k = Q * D + R
theorem DivI.start {V D : Nat} (hD : 0 < D) : DivI V D (bitsN V) 0 0 :=
  ⟨hD, 0, by simp, by simp; exact (bitsN_le V _).1 (Nat.le_refl _)⟩
theorem div_pow_succ (V k : Nat) : V / 2 ^ k = 2 * (V / 2 ^ (k + 1)) + V / 2 ^ k % 2 := by
  have : V / 2 ^ (k + 1) = V / 2 ^ k / 2 := by rw [Nat.pow_succ, Nat.div_div_eq_div_mul]
  omega
theorem DivI.yes {V D k Qv R : Nat} (h : DivI V D (k + 1) Qv R) (hle : D ≤ 2 * R + V / 2 ^ k % 2) : DivI V D k (Qv + 2 ^ k) (2 * R + V / 2 ^ k % 2 - D) := by
  obtain ⟨h1, Q, h2, h3⟩ := h
  have h4 := div_pow_succ V k
  rw [h3] at h4
  refine ⟨by omega, 2 * Q + 1, by rw [h2, Nat.pow_succ]; grind, ?_⟩
  have : (2 * Q + 1) * D = 2 * (Q * D) + D := by grind
  omega
theorem DivI.no {V D k Qv R : Nat} (h : DivI V D (k + 1) Qv R) (hlt : 2 * R + V / 2 ^ k % 2 < D) : DivI V D k Qv (2 * R + V / 2 ^ k % 2) := by
  obtain ⟨h1, Q, h2, h3⟩ := h
  have h4 := div_pow_succ V k
  rw [h3] at h4
  refine ⟨hlt, 2 * Q, by rw [h2, Nat.pow_succ]; grind, ?_⟩
  have : 2 * Q * D = 2 * (Q * D) := by grind
  omega
theorem DivI.done {V D Qv R : Nat} (h : DivI V D 0 Qv R) : Qv = V / D ∧ R = V % D := by
  obtain ⟨h1, Q, h2, h3⟩ := h
  simp at h2 h3
  subst h2
  rw [h3]
  constructor
  · rw [Nat.add_comm, Nat.mul_comm, Nat.add_mul_div_left _ _ (by omega), Nat.div_eq_of_lt h1]; simp
  · rw [Nat.add_comm, Nat.mul_comm, Nat.add_mul_mod_self_left, Nat.mod_eq_of_lt h1]

theorem val_set (b : Nat) (l : List Nat) (j y : Nat) (h : j < l.length) : val b (l.set j y) + b ^ j * l.getD j 0 = val b l + b ^ j * y := by
  have e1 := val_split b (l.set j y) (j + 1)
  have e2 := val_split b l (j + 1)
  rw [take_set_succ _ _ _ h, drop_set_succ, val_append, List.length_take, Nat.min_eq_left (by omega)] at e1
  rw [val_take_succ] at e2
  simp only [val] at e1
  grind

/-- If a number is divisible by 2^(i+1), its limb at i is divisible by 2^(i mod 32 + 1). -/
theorem limb_mod (l : List Nat) (i : Nat) (hd : Digs 4294967296 l) (h : val 4294967296 l % 2 ^ (i + 1) = 0) : l.getD (i / 32) 0 % 2 ^ (i % 32 + 1) = 0 := by
  obtain ⟨q, hq⟩ : ∃ q, i / 32 = q := ⟨_, rfl⟩
  obtain ⟨r, hr⟩ : ∃ r, i % 32 = r := ⟨_, rfl⟩
  rw [hq, hr]
  have hi : i + 1 = 32 * q + (r + 1) := by omega
  have hr' : r < 32 := by omega
  have e := val_split 4294967296 l (q + 1)
  rw [val_take_succ] at e
  have h1 : val 4294967296 (l.take q) < 4294967296 ^ q := Nat.lt_of_lt_of_le (val_lt (hd.take q)) (Nat.pow_le_pow_right (by decide) (List.length_take_le _ _))
  obtain ⟨b, hb⟩ : ∃ b : Nat, 4294967296 = b := ⟨_, rfl⟩
  have hbp : b = 2 ^ (r + 1) * 2 ^ (31 - r) := by rw [← hb, ← Nat.pow_add, show r + 1 + (31 - r) = 32 by omega]
  have hpq : 2 ^ (i + 1) = b ^ q * 2 ^ (r + 1) := by rw [hi, Nat.pow_add, Nat.pow_mul, ← hb]
  rw [hb] at e h1 h
  obtain ⟨m, hm⟩ := Nat.dvd_of_mod_eq_zero h
  have e2 : val b l = val b (l.take q) + b ^ q * (l.getD q 0 + b * val b (l.drop (q + 1))) := by rw [e, Nat.pow_succ]; grind
  have e3 : val b l / b ^ q = l.getD q 0 + b * val b (l.drop (q + 1)) := by
    rw [e2, Nat.add_mul_div_left _ _ (by omega), Nat.div_eq_of_lt h1, Nat.zero_add]
  have e4 : val b l / b ^ q = 2 ^ (r + 1) * m := by
    rw [hm, hpq, Nat.mul_assoc, Nat.mul_div_cancel_left _ (by omega)]
  rw [e4] at e3
  generalize val b (l.drop (q + 1)) = R at *
  have e5 : l.getD q 0 + 2 ^ (r + 1) * (2 ^ (31 - r) * R) = 2 ^ (r + 1) * m := by
    rw [e3, ← Nat.mul_assoc, ← hbp]
  have := congrArg (· % 2 ^ (r + 1)) e5
  simpa [Nat.add_mul_mod_self_left] using this

theorem val_zeros_append (b : Nat) (l : List Nat) (n : Nat) : val b (l ++ List.replicate n 0) = val b l := by
  rw [val_append, val_replicate]; simp

theorem dbl_out {b n v out R D bit : Nat} (h : v + b ^ (n + 1) * out = 2 * R + bit) (hR : R < D) (hD : D < b ^ n) (hbit : bit < 2) (hb : 2 ≤ b) : v = 2 * R + bit := by
  have h1 : b ^ n * 2 ≤ b ^ (n + 1) := by rw [Nat.pow_succ]; exact Nat.mul_le_mul_left _ hb
  rcases Nat.eq_zero_or_pos out with h0 | h0
  · subst h0; simpa using h
  · have : b ^ (n + 1) * 1 ≤ b ^ (n + 1) * out := Nat.mul_le_mul_left _ h0
    omega

theorem ordI_nonneg {x y : Nat} (h : y ≤ x) : 0 ≤ ordI x y := by
  rcases Nat.lt_or_ge y x with h1 | h1
  · rw [ordI_gt h1]; omega
  · rw [ordI_eq (by omega)]; omega
theorem ordI_neg {x y : Nat} (h : x < y) : ordI x y < 0 := by rw [ordI_lt h]; omega

theorem val_setbit (l : List Nat) (j x : Nat) (h : j / 32 < l.length) (hx : l.getD (j / 32) 0 = x) : val 4294967296 (l.set (j / 32) (x + 2 ^ (j % 32))) = val 4294967296 l + 2 ^ j := by
  have e := val_set 4294967296 l (j / 32) (x + 2 ^ (j % 32)) h
  rw [hx, Nat.mul_add] at e
  have e2 : 4294967296 ^ (j / 32) * 2 ^ (j % 32) = 2 ^ j := by
    rw [show (4294967296 : Nat) = 2 ^ 32 from rfl, ← Nat.pow_mul, ← Nat.pow_add]
    congr 1; omega
  rw [e2] at e
  omega
theorem setbit_lt {x r : Nat} (hx : x < 4294967296) (hr : r < 32) (h : x % 2 ^ (r + 1) = 0) : x + 2 ^ r < 4294967296 := by
  have e : (4294967296 : Nat) = 2 ^ (r + 1) * 2 ^ (31 - r) := by rw [← Nat.pow_add, show r + 1 + (31 - r) = 32 by omega]
  obtain ⟨m, hm⟩ := Nat.dvd_of_mod_eq_zero h
  have h2 : 2 ^ (r + 1) * m < 2 ^ (r + 1) * 2 ^ (31 - r) := by rw [← e, ← hm]; exact hx
  have h3 : m < 2 ^ (31 - r) := Nat.lt_of_mul_lt_mul_left h2
  have h4 : 2 ^ (r + 1) * (m + 1) ≤ 2 ^ (r + 1) * 2 ^ (31 - r) := Nat.mul_le_mul_left _ h3
  rw [← e, Nat.mul_add, ← hm] at h4
  have h5 : 2 ^ r < 2 ^ (r + 1) := Nat.pow_lt_pow_right (by omega) (by omega)
  omega

/-- The digits of N gathered so far, X left. -/
structure SmallI (b N X : Nat) (l : List Nat) : Prop where
  dig : Digs b l
  val_ : val b l + b ^ l.length * X = N
  top : X = 0 → ∀ i, l.length = i + 1 → l.getD i 0 ≠ 0
theorem SmallI.start (b N : Nat) : SmallI b N N [] := ⟨Digs.nil _, by simp [val], fun _ i h => by simp at h⟩
theorem SmallI.step {N X : Nat} {l : List Nat} (h : SmallI 256 N X l) (hX : 0 < X) : SmallI 256 N (X / 256) (l ++ [X % 256]) := by
  refine ⟨h.dig.append (Digs.one (by omega)), ?_, fun h0 i hi => ?_⟩
  · have h1 := h.val_
    rw [val_append, List.length_append, List.length_singleton, Nat.pow_succ]
    have e := Nat.div_add_mod X 256
    generalize X / 256 = q at *
    generalize X % 256 = r at *
    subst e
    simp only [val]
    grind
  · rw [List.length_append, List.length_singleton] at hi
    obtain rfl : l.length = i := by omega
    simp
    omega
theorem SmallI.done {b N : Nat} {l : List Nat} (h : SmallI b N 0 l) : Num b l N := ⟨h.dig, by have := h.val_; simpa using this, h.top rfl⟩
theorem SmallI.len {N X : Nat} {l : List Nat} (h : SmallI 256 N X l) (hX : 0 < X) (hN : N ≤ 9223372036854775807) : l.length ≤ 64 := by
  have h1 := h.val_
  have h2 : 256 ^ l.length * 1 ≤ 256 ^ l.length * X := Nat.mul_le_mul_left _ hX
  rcases Nat.lt_or_ge 64 l.length with hl | hl
  · have h3 : (2 : Nat) ^ 64 ≤ 256 ^ l.length := Nat.le_trans (Nat.pow_le_pow_left (by omega) 64) (Nat.pow_le_pow_right (by omega) (by omega))
    omega
  · exact hl
end Go.Proofs.Ytchhkokpjdkkiaa.Ex

namespace Go.Proofs.Ytchhkokpjdkkiaa.Ex
open Go.RowKit

/-- Two numbers in new memory. -/
def NatR2 (w : World) (N M : Nat) (e : Ending) (w' : World) : Prop :=
  ∃ g n c l g' n' c' l', e = .returned (.tuple #[.slice (some ⟨g, 0, none⟩) n c, .slice (some ⟨g', 0, none⟩) n' c']) ∧ Own w' w.heap.size 184 .u32 (some ⟨g, 0, none⟩) n c l ∧ Num 4294967296 l N ∧
    Own w' w.heap.size 184 .u32 (some ⟨g', 0, none⟩) n' c' l' ∧ Num 4294967296 l' M ∧ Below w.heap.size w w'

theorem u32_setbit (x r : Nat) (hx : x < 4294967296) (hr : r < 32) (h : x % 2 ^ (r + 1) = 0) : bits .or .u32 (x : Int) ((2 : Int) ^ r % 4294967296) = ((x + 2 ^ r : Nat) : Int) := by
  have h2 : 2 ^ r < 4294967296 := Nat.lt_of_lt_of_le (Nat.pow_lt_pow_right (by omega) hr) (Nat.le_refl _)
  have := u32_or_nat x (2 ^ r) hx h2
  rw [nat_join (r + 1) _ _ h (Nat.pow_lt_pow_right (by omega) (by omega))] at this
  rw [← this]
  have e : ((2 : Int) ^ r % 4294967296) = ((2 ^ r : Nat) : Int) := by
    have : ((2 ^ r : Nat) : Int) = (2 : Int) ^ r := by simp
    rw [← this]; omega
  rw [e]

set_option maxHeartbeats 3200000 in
theorem split_c (A : Option Addr) (na ca : Nat) (la : List Nat) (A' : Option Addr) (nb cb : Nat) (lb : List Nat) (w : World) (B : Nat) (ha : Sl w B .u32 A na ca la) (hb : Sl w B .u32 A' nb cb lb)
    (hB : B ≤ w.heap.size) (hda : Digs 4294967296 la) (hdb : Digs 4294967296 lb) (hna : na ≤ 1073741824) (hnb : nb ≤ 1073741824) (hpos : 0 < val 4294967296 lb) :
    Calls Try.prog 109 #[.slice A na ca, .slice A' nb cb] w (NatR2 w (val 4294967296 la / val 4294967296 lb) (val 4294967296 la % val 4294967296 lb)) := by
  obtain ⟨V, hV⟩ : ∃ V, val 4294967296 la = V := ⟨_, rfl⟩
  obtain ⟨D, hD⟩ : ∃ D, val 4294967296 lb = D := ⟨_, rfl⟩
  rw [hD] at hpos
  rw [hV, hD]
  have HV := hide hV
  have HD := hide hD
  clear hV hD
  have HV2 : Hid (bitsN V ≤ 32 * na) := (bitsN_le _ _).2 (by have := val_lt hda; rwa [HV.out, ha.len, show (4294967296 : Nat) = 2 ^ 32 from rfl, ← Nat.pow_mul] at this)
  go_enter Try.func109, Try.ntmps109
  go_wp2_with fail
  refine (trim_n _ _ _ _ _ _ hb hdb).mono ?_
  rintro e w' ⟨mb, hmb, rfl, tb, rfl⟩
  have sb := hb.take hmb
  rw [HD.out] at tb
  obtain ⟨m, hm⟩ : ∃ m, lb.take mb = m := ⟨_, rfl⟩
  rw [hm] at tb sb
  clear hm
  go_wp2_with (first
    | (at_make; refine wl_make _ rfl (.tmp 13) _ _ rfl 184 .u32 4 Try.underlying129 info_u32 (by omega) _ _ na rfl rfl (by omega) (by omega) (by omega) ?_; intro w1 hq hgr hsz)
    | (at_make; refine wl_make _ rfl (.tmp 17) _ _ rfl 184 .u32 4 Try.underlying129 info_u32 (by omega) _ _ (mb + 1) rfl rfl (by omega) (by omega) (by omega) ?_; intro w2 hr hgr2 hsz2))
  have hb1 : Below w.heap.size w w1 := (Below.refl _ _).grown hgr (Nat.le_refl _) (fun k hk => by cases hk)
  have hb2 : Below w.heap.size w w2 := hb1.grown hgr2 (by omega) (fun k hk => by cases hk)
  have hq2 := hq.grown hgr2 (fun g h => by simp)
  clear hgr hgr2 hq hb1
  refine (size_c _ _ _ _ _ _ (ha.below (hb2.mono hB)) hda (by omega)).mono ?_
  rintro e w' ⟨rfl, rfl⟩
  rw [HV.out]
  have HVV := HV2.out
  go_wp2
  go_loopw [8] (fun iv wr => ∃ (k Qv R : Nat) (lq lr : List Nat), iv = .int .i64 ((k : Int) - 1) ∧ k ≤ bitsN V ∧ Own wr w.heap.size 184 .u32 (some ⟨w.heap.size, 0, none⟩) na na lq ∧ Digs 4294967296 lq ∧ val 4294967296 lq = Qv ∧
      Own wr w1.heap.size 184 .u32 (some ⟨w1.heap.size, 0, none⟩) (mb + 1) (mb + 1) lr ∧ Digs 4294967296 lr ∧ val 4294967296 lr = R ∧ DivI V D k Qv R ∧ Below w.heap.size w wr)
    (fun iv _ => (intOf iv + 1).toNat)
  case atStart => exact ⟨bitsN V, 0, 0, _, _, rfl, Nat.le_refl _, hq2, Digs.replicate (by omega) _, val_replicate _ _, hr, Digs.replicate (by omega) _, val_replicate _ _, DivI.start hpos, hb2⟩
  case round =>
    obtain ⟨k, Qv, R, lq, lr, rfl, hk, hoq, hdq, hvq, hor, hdr, hvr, hI, hbw⟩ := hrel
    by_cases h0 : 0 < k
    · obtain ⟨j, rfl⟩ : ∃ j, k = j + 1 := ⟨k - 1, by omega⟩
      rw [show ((j + 1 : Nat) : Int) - 1 = (j : Int) from by omega]
      have hvq' := hide hvq
      have hvr' := hide hvr
      clear hvq hvr
      have hj : j / 32 < na := by omega
      have hbit : V / 2 ^ j % 2 < 2 := Nat.mod_lt _ (by omega)
      go_wp2_with fail
      refine (bit_c _ _ _ _ _ _ j (ha.below (hbw.mono hB)) hda hj (by omega)).mono ?_
      rintro e w' ⟨rfl, rfl⟩
      rw [HV.out]
      obtain ⟨bit, hbt⟩ : ∃ bit, V / 2 ^ j % 2 = bit := ⟨_, rfl⟩
      rw [hbt] at hbit ⊢
      have HBT := hide hbt
      clear hbt
      go_wp2_with fail
      refine (double_c _ _ _ _ _ _ bit hor hdr hbit (by omega)).mono ?_
      rintro e w3 ⟨rfl, lr2, hor2, hdr2, ⟨out, hout⟩, hgr3⟩
      rw [hvr'.out] at hout
      have HR2 := hide (dbl_out hout hI.1 (by have := tb.lt; rwa [sb.len] at this) hbit (by omega))
      clear hout
      have hoq2 := hoq.grown hgr3 (fun g h => by injection h with h; injection h with h; subst h; simp; omega)
      have hbw2 : Below w.heap.size w w3 := hbw.grown hgr3 hbw.size (fun k hk => by cases hk; omega)
      clear hgr3
      have hcmp := order_c _ _ _ _ _ _ _ _ w3 _ hor2.sl ((sb.below (hbw2.mono hB)).mono (by have := hbw2.size; omega)) hdr2 tb.dig
      rw [HR2.out, tb.val_] at hcmp
      by_cases hge : D ≤ 2 * R + bit
      · have hge' := ordI_nonneg hge
        go_wp2_with fail
        refine hcmp.mono ?_
        rintro e w' ⟨rfl, nq, rfl⟩
        clear hcmp
        go_wp2_with fail
        refine (minus_c _ _ _ _ _ _ _ _ (w3.drewN nq) _ (hor2.drewN nq).sl (((sb.below (hbw2.mono hB)).mono (show B ≤ w3.heap.size by have := hbw2.size; omega)).drewN nq) (Nat.le_refl _) hdr2 tb.dig (by omega) (by omega) (by rw [HR2.out, tb.val_]; exact hge)).mono ?_
        rintro e w4 ⟨Ad, nd, cd, ld, rfl, hod, hnd, hb4⟩
        have hb4' : Below w3.heap.size w3 w4 := ⟨hb4.os, hb4.tape, hb4.output, hb4.size, hb4.block⟩
        rw [HR2.out, tb.val_] at hnd
        have hor3 := hor2.below hb4' (Nat.le_refl _)
        have hoq3 := hoq2.below hb4' (Nat.le_refl _)
        have hbw3 : Below w.heap.size w w4 := hbw2.trans (hb4'.mono hbw2.size)
        clear hb4 hb4'
        have hlen : nd ≤ mb + 1 := by
          have h1 := (hnd.length_le (by omega) mb).2 (by have := tb.lt; rw [sb.len] at this; have := hI.1; omega)
          rw [hod.len] at h1; omega
        go_wp2_with (with_reducible refine wl_clear _ rfl _ _ rfl w1.heap.size 184 .u32 4 Try.underlying129 info_u32 _ _ _ _ rfl hor3 (by omega) ?_)
        intro w5 hor4 hgr5
        have hs3 : w.heap.size ≤ w3.heap.size := hbw2.size
        have hs13 : w1.heap.size < w3.heap.size := (hor2.lt rfl).2
        have hod5 := hod.grown hgr5 (fun g h => by have h1 := (hod.lt h).1; have h2 : w3.heap.size ≤ g := h1; simp; omega)
        have hoq5 := hoq3.grown hgr5 (fun g h => by injection h with h; injection h with h; subst h; simp; omega)
        have hbw5 : Below w.heap.size w w5 := hbw3.grown hgr5 hbw3.size (fun k hk => by cases hk; omega)
        clear hgr5 hoq3 hbw3 hor3 hod
        go_wp2_with (with_reducible refine wl_copy _ rfl _ _ _ _ rfl w1.heap.size 184 .u32 4 Try.underlying129 info_u32 _ _ _ _ rfl hor4 _ _ _ _ rfl _ hod5.sl ?_)
        intro w6 hor5 hgr6
        have hoq6 := hoq5.grown hgr6 (fun g h => by injection h with h; injection h with h; subst h; simp; omega)
        have hbw6 : Below w.heap.size w w6 := hbw5.grown hgr6 hbw5.size (fun k hk => by cases hk; omega)
        clear hgr6 hoq5 hbw5 hor4
        have e6 : ld.take (mb + 1) = ld := List.take_of_length_le (by rw [hod5.len]; exact hlen)
        rw [e6] at hor5
        have HR5 := hide ((val_zeros_append 4294967296 ld (mb + 1 - nd)).trans hnd.val_)
        have hdr5 : Digs 4294967296 (ld ++ List.replicate (mb + 1 - nd) 0) := hnd.dig.append (Digs.replicate (by omega) _)
        have hmod : lq.getD (j / 32) 0 % 2 ^ (j % 32 + 1) = 0 := by
          refine limb_mod lq j hdq ?_
          rw [hvq'.out]
          obtain ⟨_, Q, h2, _⟩ := hI
          rw [h2]; exact Nat.mul_mod_left _ _
        obtain ⟨x, hx, hxm, hcx⟩ := hoq6.cell hj
        have hx1 := hdq x hxm
        rw [hx] at hmod
        have HM := hide hmod
        have HX := hide hx
        have hfx := hoq6.frozen (j / 32)
        clear hx hmod
        have hj32 : j % 32 < 32 := Nat.mod_lt _ (by omega)
        go_wp2
        go_region
        all_goals go_wp2
        all_goals go_roundw
        case rel =>
          have o7 := (hoq6.store (j / 32) (x + 2 ^ (j % 32)) (v := .int .u32 (bits .or .u32 (x : Int) ((2 : Int) ^ (j % 32) % 4294967296))) (by rw [u32_setbit _ _ hx1 hj32 HM.out])).drew
          have hvs := val_setbit lq j x (by rw [hoq6.len]; exact hj) HX.out
          rw [hvq'.out] at hvs
          have hI2 := hI.yes (by rw [HBT.out]; exact hge)
          rw [HBT.out] at hI2
          exact ⟨j, _, _, _, _, rfl, by omega, o7, hdq.set _ _ (setbit_lt hx1 hj32 HM.out), hvs, (hor5.far (fun g h => by injection h with h; injection h with h; subst h; simp; omega) _).drew, hdr5, HR5.out, hI2, (hbw6.setCell (Nat.le_refl _) _).drew⟩
        case measure => simp [intOf] <;> omega
      · have hge' := ordI_neg (Nat.lt_of_not_le hge)
        go_wp2_with fail
        refine hcmp.mono ?_
        rintro e w' ⟨rfl, nq, rfl⟩
        clear hcmp
        go_wp2
        go_roundw
        case rel =>
          have hI2 := hI.no (by rw [HBT.out]; omega)
          rw [HBT.out] at hI2
          exact ⟨j, _, _, _, _, rfl, by omega, hoq2.drewN _, hdq, hvq'.out, hor2.drewN _, hdr2, HR2.out, hI2, below_drewN hbw2 _⟩
        case measure => simp [intOf] <;> omega
    · obtain rfl : k = 0 := by omega
      have hvq' := hide hvq
      have hvr' := hide hvr
      clear hvq hvr
      go_wp2_with fail
      refine (trim_n _ _ _ _ _ _ hoq.sl hdq).mono ?_
      rintro e w' ⟨mq, hmq, rfl, tq, rfl⟩
      go_wp2_with fail
      refine (clone_c _ _ _ _ _ _ hor.sl (Nat.le_refl _) hdr (by omega)).mono ?_
      rintro e w3 ⟨Ar, nr, cr, lr', rfl, hor', tr, hb3⟩
      go_wp2
      go_ret2
      have hd := hI.done
      rw [hvq'.out, hd.1] at tq
      rw [hvr'.out, hd.2] at tr
      exact ⟨_, _, _, _, _, _, _, _, rfl, (hoq.take hmq).below hb3 (Nat.le_refl _), tq, hor'.mono hbw.size, tr, hbw.trans (hb3.mono hbw.size)⟩
end Go.Proofs.Ytchhkokpjdkkiaa.Ex
