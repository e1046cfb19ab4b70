/- The contract of exact's times. Binomial coefficients and the counts of samples: plain lemmas. Contracts of exact's fit, Check, check, sane, next, choose. Contracts of exact's Of. Contracts of the reference's trim, small, compare, fits. What the reference's loops compute: plain lemmas. Contracts of the reference's add, sub. Contracts of the reference's compare, mul. More words for memory: a block that is known whole. Plain lemmas. -/
import Derived.Test.YtchhkokpjdkkiaaTopDisclosesa05
import Derived.Test.YtchhkokpjdkkiaaTopDisclosesa06
import Derived.Test.YtchhkokpjdkkiaaTopDisclosesa07
import Derived.Test.YtchhkokpjdkkiaaTopDisclosesa08
import Derived.Deep.LoopGhost
import Derived.Test.YtchhkokpjdkkiaaTopDisclosesa04
namespace Go.Proofs.Ytchhkokpjdkkiaa.Ex
open Go.RowKit

theorem u32_mul_le {x y : Nat} (hx : x < 4294967296) (hy : y < 4294967296) : x * y ≤ 18446744065119617025 :=
  Nat.mul_le_mul (show x ≤ 4294967295 by omega) (show y ≤ 4294967295 by omega)

set_option maxHeartbeats 1600000 in
theorem times_c (A : Option Addr) (na ca : Nat) (la : List Nat) (A' : Option Addr) (nb cb : Nat) (lb : List Nat) (w : World) (B : Nat) (ha : Sl w B .u32 A na ca la) (hb : Sl w B .u32 A' nb cb lb)
    (hB : B ≤ w.heap.size) (hda : Digs 4294967296 la) (hdb : Digs 4294967296 lb) (hna : na ≤ 1073741824) (hnb : nb ≤ 1073741824) :
    Calls Try.prog 114 #[.slice A na ca, .slice A' nb cb] w (NatR w (val 4294967296 la * val 4294967296 lb)) := by
  go_enter Try.func114, Try.ntmps114
  go_wp2_with (first
    | (at_make; refine wl_make _ rfl _ _ _ rfl 184 .u32 4 Try.underlying129 info_u32 (by omega) _ _ (na + nb) rfl rfl (by omega) (by omega) (by omega) ?_; intro w1 hown hgr hsz))
  have hbel : Below w.heap.size w w1 := (Below.refl _ _).grown hgr (Nat.le_refl _) (fun k hk => by cases hk)
  clear hgr
  go_loopw [17] (fun iv wr => ∃ (i : Nat) (lo : List Nat), i ≤ na ∧ iv = .int .i64 i ∧
      Own wr w.heap.size 184 .u32 (some ⟨w.heap.size, 0, none⟩) (na + nb) (na + nb) lo ∧ Digs 4294967296 lo ∧ TimesI 4294967296 la lb lo i nb ∧ Below w.heap.size w wr)
    (fun iv _ => na - (intOf iv).toNat)
  case atStart => exact ⟨0, _, by omega, rfl, hown, Digs.replicate (by omega) _, TimesI.start _ _ _ _ _, hbel⟩
  case round =>
    obtain ⟨i, lo, hi, rfl, ho, hdo, hI, hbw⟩ := hrel
    by_cases hlt : i < na
    · obtain ⟨wo, rfl⟩ : ∃ wo : World, wo = wr := ⟨_, rfl⟩
      go_wp2
      go_loopw [7, 22] (fun cv kv wr => ∃ (k carry : Nat) (l2 : List Nat), k ≤ nb ∧ kv = .int .i64 k ∧ cv = .int .u64 carry ∧ carry < 4294967296 ∧
          Own wr w.heap.size 184 .u32 (some ⟨w.heap.size, 0, none⟩) (na + nb) (na + nb) l2 ∧ Digs 4294967296 l2 ∧ RowI 4294967296 lo lb l2 i k (la.getD i 0) carry ∧ Below w.heap.size w wr)
        (fun _ kv _ => nb - (intOf kv).toNat)
      case atStart => exact ⟨0, 0, lo, by omega, rfl, rfl, by omega, ho, hdo, RowI.start _ _ _ _ _, hbw⟩
      case round =>
        obtain ⟨k, carry, l2, hk, rfl, rfl, hc, ho2, hdo2, hI2, hbw2⟩ := hrel
        obtain ⟨x, HX⟩ : ∃ x, Hid (la.getD i 0 = x) := ⟨_, rfl⟩
        rw [HX.out] at hI2
        by_cases hlt2 : k < nb
        · obtain ⟨b1, o1, x', rfl, hb1, hx, hxm, hcx⟩ := (ha.below (hbw2.mono hB)).cell hlt
          obtain rfl : x = x' := by rw [← hx]; exact HX.out.symm
          obtain ⟨b2, o2, y, rfl, hb2, hy, hym, hcy⟩ := (hb.below (hbw2.mono hB)).cell hlt2
          obtain ⟨z, hz, hzm, hcz⟩ := ho2.cell (show i + k < na + nb by omega)
          have hfz := ho2.frozen (i + k)
          have hx1 := hda x hxm
          have hy1 := hdb y hym
          have hz1 := hdo2 z hzm
          have hxy := u32_mul_le hx1 hy1
          have HY := hide hy
          have HZ := hide hz
          clear hx hy hz
          go_wp2_with fail
          go_quiet (fail)
          go_wp2
          go_roundw
          case rel =>
            have hs := hI2.step (t := carry + x * y + z) (by rw [ho2.len]; omega) HY.out HZ.out rfl
            have et : ((carry : Int) + ((x : Int) * y + z)) = ((carry + x * y + z : Nat) : Int) := by rw [Int.natCast_add, Int.natCast_add, Int.natCast_mul]; omega
            have ht : carry + x * y + z < 18446744073709551616 := by omega
            obtain ⟨t, et2⟩ : ∃ t, carry + x * y + z = t := ⟨_, rfl⟩
            rw [et2] at hs et ht
            rw [et]
            exact ⟨k + 1, t / 4294967296, _, by omega, by go_num, by go_num, by omega, (ho2.store (i + k) (t % 4294967296) (by go_num)).drewN _, hdo2.set _ _ (by omega), by rw [HX.out]; exact hs, below_drewN (hbw2.setCell (Nat.le_refl _) _) _⟩
          case measure => simp [intOf] <;> omega
        · obtain rfl : k = nb := by omega
          obtain ⟨z, hz, hzm, hcz⟩ := ho2.cell (show i + k < na + k by omega)
          have hfz := ho2.frozen (i + k)
          clear hz
          go_wp2
          go_roundw
          case rel =>
            have hs := hI.step (by omega) hI2 HX.out hb.len (by rw [ho2.len]; omega)
            exact ⟨i + 1, _, by omega, by go_num, ho2.store (i + k) carry (by go_num), hdo2.set _ _ hc, hs, hbw2.setCell (Nat.le_refl _) _⟩
          case measure => simp [intOf] <;> omega
    · obtain rfl : i = na := by omega
      go_wp2_with (go_at_call 119; refine (trim_n _ _ _ _ _ _ ho.sl hdo).mono ?_; rintro e w' ⟨m, hm, rfl, ta, rfl⟩)
      go_ret
      rw [hI.done ha.len ho.len] at ta
      exact ⟨_, _, _, _, rfl, ho.take hm, ta, hbw⟩
end Go.Proofs.Ytchhkokpjdkkiaa.Ex

namespace Go.Proofs.Ytchhkokpjdkkiaa.Ex

/-- How many sets of k there are among n things. -/
def Cn : Nat → Nat → Nat
  | _, 0 => 1
  | 0, _ + 1 => 0
  | n + 1, k + 1 => Cn n k + Cn n (k + 1)
theorem Cn_zero (n : Nat) : Cn n 0 = 1 := by cases n <;> rfl
theorem Cn_succ (n k : Nat) : Cn (n + 1) (k + 1) = Cn n k + Cn n (k + 1) := rfl
theorem Cn_gt : ∀ (n k : Nat), n < k → Cn n k = 0
  | 0, 0, h => by omega
  | 0, k + 1, _ => rfl
  | n + 1, 0, h => by omega
  | n + 1, k + 1, h => by rw [Cn_succ, Cn_gt n k (by omega), Cn_gt n (k + 1) (by omega)]
theorem Cn_self : ∀ n : Nat, Cn n n = 1
  | 0 => rfl
  | n + 1 => by rw [Cn_succ, Cn_self n, Cn_gt n (n + 1) (by omega)]
theorem Cn_step : ∀ (n k : Nat), Cn n (k + 1) * (k + 1) = Cn n k * (n - k)
  | 0, 0 => by simp [Cn]
  | 0, k + 1 => by simp [Cn]
  | n + 1, 0 => by
    have h := Cn_step n 0
    rw [Cn_zero] at h
    rw [Cn_succ, Cn_zero, Cn_zero]
    omega
  | n + 1, k + 1 => by
    have h1 := Cn_step n k
    have h2 := Cn_step n (k + 1)
    rw [Cn_succ n (k + 1), Cn_succ n k]
    rcases Nat.lt_or_ge k n with hk | hk
    · obtain ⟨m, hm⟩ : ∃ m, n - k = m + 1 := ⟨n - k - 1, by omega⟩
      rw [show n + 1 - (k + 1) = n - k by omega, hm]
      rw [hm] at h1
      rw [show n - (k + 1) = m by omega] at h2
      grind
    · rw [show n + 1 - (k + 1) = 0 by omega, Nat.mul_zero, Cn_gt n (k + 1) (by omega), Cn_gt n (k + 1 + 1) (by omega)]
      simp
theorem Cn_next (n k : Nat) : Cn n k * (n - k) / (k + 1) = Cn n (k + 1) := by
  rw [← Cn_step, Nat.mul_div_cancel _ (by omega)]
theorem Cn_prev {n k : Nat} (h : k + 1 ≤ n) : Cn n (k + 1) * (k + 1) / (n - (k + 1) + 1) = Cn n k := by
  rw [Cn_step, show n - (k + 1) + 1 = n - k by omega, Nat.mul_div_cancel _ (by omega)]
theorem Cn_le : ∀ n k : Nat, Cn n k ≤ 2 ^ n
  | 0, 0 => by simp [Cn]
  | 0, k + 1 => by simp [Cn]
  | n + 1, 0 => by rw [Cn_zero]; exact Nat.one_le_two_pow
  | n + 1, k + 1 => by
    have h1 := Cn_le n k
    have h2 := Cn_le n (k + 1)
    rw [Cn_succ, Nat.pow_succ]; omega
theorem Cn_pos : ∀ {n k : Nat}, k ≤ n → 0 < Cn n k
  | n, 0, _ => by rw [Cn_zero]; omega
  | 0, k + 1, h => by omega
  | n + 1, k + 1, h => by
    have := @Cn_pos n k (by omega)
    rw [Cn_succ]; omega
theorem Cn_symm : ∀ {n k : Nat}, k ≤ n → Cn n (n - k) = Cn n k
  | n, 0, _ => by rw [Nat.sub_zero, Cn_zero, Cn_self]
  | 0, k + 1, h => by omega
  | n + 1, k + 1, h => by
    rcases Nat.lt_or_ge k n with hk | hk
    · have h1 := @Cn_symm n k (by omega)
      have h2 := @Cn_symm n (k + 1) (by omega)
      rw [show n + 1 - (k + 1) = (n - (k + 1)) + 1 by omega, Cn_succ, Cn_succ, show n - (k + 1) + 1 = n - k by omega, h1, h2]
      omega
    · obtain rfl : k = n := by omega
      rw [Nat.sub_self, Cn_zero, Cn_self]
theorem Cn_min {n k : Nat} (h : k ≤ n) : Cn n (min k (n - k)) = Cn n k := by
  rcases Nat.le_total k (n - k) with h1 | h1
  · rw [Nat.min_eq_left h1]
  · rw [Nat.min_eq_right h1, Cn_symm h]

/-- How many sets of s things there are among t of which b are bad, with fewer than m bad ones. -/
def Wn (t b s : Nat) : Nat → Nat
  | 0 => 0
  | m + 1 => Wn t b s m + if m ≤ s then Cn b m * Cn (t - b) (s - m) else 0
theorem Wn_zero_upto {t b s : Nat} : ∀ {m : Nat}, (∀ i, i < m → t - b < s - i) → Wn t b s m = 0
  | 0, _ => rfl
  | m + 1, h => by
    unfold Wn
    rw [Wn_zero_upto (fun i hi => h i (by omega)), Cn_gt _ _ (h m (by omega))]
    simp
theorem Wn_stop {t b s : Nat} {m n : Nat} (h : m ≤ n) (hm : min b s < m) : Wn t b s n = Wn t b s m := by
  induction n with
  | zero => obtain rfl : m = 0 := by omega
            rfl
  | succ n ih =>
    rcases Nat.lt_or_ge n m with hn | hn
    · obtain rfl : m = n + 1 := by omega
      rfl
    · rw [Wn, ih hn]
      split
      · rw [Cn_gt b n (by omega)]; simp
      · rfl
theorem Wn_le (t b s e f : Nat) (hb : b ≤ e) (ht : t ≤ e) (hf : e + e = f) : ∀ m, Wn t b s m ≤ m * 2 ^ f
  | 0 => by simp [Wn]
  | m + 1 => by
    have h1 := Wn_le t b s e f hb ht hf m
    have h2 : (if m ≤ s then Cn b m * Cn (t - b) (s - m) else 0) ≤ 2 ^ f := by
      split
      · have a1 : Cn b m ≤ 2 ^ e := Nat.le_trans (Cn_le b m) (Nat.pow_le_pow_right (by omega) hb)
        have a2 : Cn (t - b) (s - m) ≤ 2 ^ e := Nat.le_trans (Cn_le _ _) (Nat.pow_le_pow_right (by omega) (by omega))
        have := Nat.mul_le_mul a1 a2
        rwa [← Nat.pow_add, hf] at this
      · exact Nat.zero_le _
    rw [Wn, Nat.add_mul, Nat.one_mul]
    exact Nat.add_le_add h1 h2
/-- C(n, k) for any k. -/
def Ci (n : Nat) (k : Int) : Nat := if k < 0 then 0 else Cn n k.toNat
theorem Ci_nat (n k : Nat) : Ci n (k : Int) = Cn n k := by unfold Ci; rw [if_neg (by omega)]; rfl
theorem Ci_out {n : Nat} {k : Int} (h : k < 0 ∨ (n : Int) < k) : Ci n k = 0 := by
  unfold Ci
  split
  · rfl
  · exact Cn_gt _ _ (by omega)
theorem lt_pow_of_le {N b m : Nat} (h : N ≤ 2 ^ m) (hb : b = 4294967296) (k : Nat) (hk : m < 32 * k) : N < b ^ k := by
  rw [hb, show (4294967296 : Nat) = 2 ^ 32 from rfl, ← Nat.pow_mul]
  exact Nat.lt_of_le_of_lt h (Nat.pow_lt_pow_right (by omega) hk)
/-- A number that fits 64 limbs. -/
def Fits (N : Nat) : Prop := N < 4294967296 ^ 64
theorem Num.fits {l : List Nat} {N : Nat} (h : Num 4294967296 l N) : l.length ≤ 64 ↔ Fits N := h.length_le (by omega) 64
theorem Num.len_Cn {l : List Nat} {N k n : Nat} (h : Num 4294967296 l (Cn N k)) (hN : N ≤ 512) (hl : l.length = n) : n ≤ 17 := by
  rw [← hl]
  exact (h.length_le (by omega) 17).2 (lt_pow_of_le (Cn_le N k) rfl 17 (by omega))
end Go.Proofs.Ytchhkokpjdkkiaa.Ex

namespace Go.Proofs.Ytchhkokpjdkkiaa.Ex
open Go.RowKit

/-- A number in memory. -/
def NatV (w : World) (N : Nat) (e : Ending) (w' : World) : Prop :=
  ∃ A n c l, e = .returned (.slice A n c) ∧ Sl w' w'.heap.size .u32 A n c l ∧ Num 4294967296 l N ∧ Below w.heap.size w w'
theorem NatR.v {w w' : World} {N : Nat} {e : Ending} (h : NatR w N e w') : NatV w N e w' := by
  obtain ⟨g, n, c, l, he, ho, hn, hb⟩ := h
  exact ⟨_, _, _, _, he, ho.sl, hn, hb⟩

theorem Sl.one (w : World) (E : TypeId) (k : IntKind) (x : Nat) {v : Value} (hv : v = .int k x) : Sl (w.alloc (.cells #[v] E)) (w.heap.size + 1) k (some ⟨w.heap.size, 0, none⟩) 1 1 [x] := by
  subst hv
  refine ⟨rfl, Nat.le_refl _, by omega, fun _ => ⟨w.heap.size, 0, rfl, by omega, fun j hj => ?_⟩⟩
  obtain rfl : j = 0 := by omega
  rw [World.cell?_alloc_at _ _ _ _ rfl]
  rfl

/-- What fit, and all that end in it, return: a number, or ErrOver. -/
def FitR (w : World) (N : Nat) (e : Ending) (w' : World) : Prop := Below w.heap.size w w' ∧
  ((Fits N ∧ ∃ g n c l, e = .returned (.tuple #[.slice (some ⟨g, 0, none⟩) n c, .int .i64 0]) ∧ Own w' w.heap.size 184 .u32 (some ⟨g, 0, none⟩) n c l ∧ Num 4294967296 l N) ∨
   (¬ Fits N ∧ e = .returned (.tuple #[.slice none 0 0, .int .i64 8])))

set_option maxHeartbeats 400000 in
theorem fit_c (A : Option Addr) (n c : Nat) (l : List Nat) (w : World) (B : Nat) (h : Sl w B .u32 A n c l) (hB : B ≤ w.heap.size) (hd : Digs 4294967296 l) (hn : n ≤ 1099511627776) :
    Calls Try.prog 111 #[.slice A n c] w (FitR w (val 4294967296 l)) := by
  have hc := clone_c A n c l w B h hB hd hn
  go_enter Try.func111, Try.ntmps111
  go_wp2_with fail
  refine hc.mono ?_
  rintro e w1 ⟨g, n1, c1, l1, rfl, ho, hn1, hb⟩
  clear hc
  have hm := ho.sl.max
  have hcap := ho.sl.cap
  have HLE := hide hn1.fits
  by_cases h64 : n1 ≤ 64
  · go_wp2
    go_ret2
    exact ⟨hb, .inl ⟨HLE.out.1 (by rw [ho.len]; exact h64), _, _, _, _, rfl, ho, hn1⟩⟩
  · go_wp2
    go_ret2
    exact ⟨hb, .inr ⟨fun hp => h64 (by rw [← ho.len]; exact HLE.out.2 hp), rfl⟩⟩

set_option maxHeartbeats 400000 in
theorem check1_c (A : Option Addr) (n c : Nat) (w : World) (hn : n ≤ 9223372036854775807) :
    Calls Try.prog 127 #[.slice A n c] w fun e w' => e = .returned (.int .i64 (if n ≤ 64 then 0 else 4)) ∧ w = w' := by
  by_cases h64 : n ≤ 64
  · rw [if_pos h64]
    go_enter Try.func127, Try.ntmps127
    go_wp2
    go_ret
    exact ⟨rfl, rfl⟩
  · rw [if_neg h64]
    go_enter Try.func127, Try.ntmps127
    go_wp2
    go_ret
    exact ⟨rfl, rfl⟩

set_option maxHeartbeats 400000 in
theorem check2_c (A : Option Addr) (n c : Nat) (A' : Option Addr) (n' c' : Nat) (w : World) (hn : n ≤ 9223372036854775807) (hn' : n' ≤ 9223372036854775807) :
    Calls Try.prog 135 #[.slice A n c, .slice A' n' c'] w fun e w' => e = .returned (.int .i64 (if n ≤ 64 ∧ n' ≤ 64 then 0 else 4)) ∧ w = w' := by
  have h1 := check1_c A n c w hn
  have h2 := check1_c A' n' c' w hn'
  by_cases h : n ≤ 64 <;> by_cases h' : n' ≤ 64
  all_goals
    simp only [h, h', if_true, if_false, and_self, and_false, false_and] at h1 h2 ⊢
    go_enter Try.func135, Try.ntmps135
    go_wp2_with fail
    refine h1.mono ?_
    rintro e w' ⟨rfl, rfl⟩
    go_wp2_with fail
    refine h2.mono ?_
    rintro e w' ⟨rfl, rfl⟩
    clear h1 h2
    go_wp2
    go_ret
    exact ⟨rfl, rfl⟩

def saneB (t p : Int) : Bool := decide (0 ≤ t) && decide (t ≤ 512) && decide (0 ≤ p) && decide (p ≤ t)
theorem saneB_true {t p : Int} : saneB t p = true ↔ 0 ≤ t ∧ t ≤ 512 ∧ 0 ≤ p ∧ p ≤ t := by simp [saneB, and_assoc]
set_option maxHeartbeats 400000 in
theorem sane_c (t p : Int) (w : World) : Calls Try.prog 81 #[.int .i64 t, .int .i64 p] w fun e w' => e = .returned (.bool (saneB t p)) ∧ w = w' := by
  by_cases h1 : 0 ≤ t
  · by_cases h2 : t ≤ 512
    · by_cases h3 : 0 ≤ p
      · by_cases h4 : p ≤ t
        · rw [show saneB t p = true from saneB_true.2 ⟨h1, h2, h3, h4⟩]
          go_enter Try.func81, Try.ntmps81
          go_wp2
          go_ret
          exact ⟨rfl, rfl⟩
        · rw [show saneB t p = false by simp [saneB, h4]]
          go_enter Try.func81, Try.ntmps81
          go_wp2
          go_ret
          exact ⟨rfl, rfl⟩
      · rw [show saneB t p = false by simp [saneB, h3]]
        have h3' : decide (0 ≤ p) = false := by simpa using h3
        go_enter Try.func81, Try.ntmps81
        go_wp2
        go_ret
        exact ⟨rfl, rfl⟩
    · rw [show saneB t p = false by simp [saneB, h2]]
      have h2' : decide (t ≤ 512) = false := by simpa using h2
      go_enter Try.func81, Try.ntmps81
      go_wp2
      go_ret
      exact ⟨rfl, rfl⟩
  · rw [show saneB t p = false by simp [saneB, h1]]
    have h1' : decide (0 ≤ t) = false := by simpa using h1
    go_enter Try.func81, Try.ntmps81
    go_wp2
    go_ret
    exact ⟨rfl, rfl⟩
set_option maxHeartbeats 800000 in
/-- 'next': the quotient of c (n - k) and k + 1. -/
theorem next_c (A : Option Addr) (n c : Nat) (l : List Nat) (w : World) (B : Nat) (N K : Nat) (h : Sl w B .u32 A n c l) (hB : B ≤ w.heap.size) (hd : Digs 4294967296 l) (hn : n ≤ 1048576) (hK : K ≤ N) (hN : N ≤ 4294967294) :
    Calls Try.prog 115 #[.slice A n c, .int .i64 N, .int .i64 K] w (NatR w (val 4294967296 l * (N - K) / (K + 1))) := by
  go_enter Try.func115, Try.ntmps115
  go_wp2_with fail
  have t1 := times_c A n c l (some ⟨w.heap.size, 0, none⟩) 1 1 [N - K] (w.alloc (.cells #[.int .u32 ((N : Int) - K)] 184)) (w.heap.size + 1)
    ((h.below ((Below.refl _ _).alloc hB _)).mono (by omega)) (Sl.one w _ _ _ (congrArg (Value.int .u32) (by omega))) (by simp) hd (Digs.one (by omega)) (by omega) (by omega)
  rw [show val 4294967296 [N - K] = N - K by simp [val]] at t1
  refine t1.mono ?_
  rintro e w1 ⟨g, n1, c1, l1, rfl, ho1, hn1, hb1⟩
  clear t1
  have hs1 : w.heap.size + 1 ≤ w1.heap.size := by have := hb1.size; simpa using this
  have hlen : n1 ≤ n + 1 := by
    have h2 : val 4294967296 l * (N - K) < 4294967296 ^ (n + 1) := by
      have h3 := val_lt hd
      rw [h.len] at h3
      rw [Nat.pow_succ]
      exact Nat.mul_lt_mul_of_lt_of_le h3 (by omega) (by omega)
    have := (hn1.length_le (by omega) (n + 1)).2 h2
    rwa [ho1.len] at this
  go_wp2_with fail
  have t2 := split_c (some ⟨g, 0, none⟩) n1 c1 l1 (some ⟨w1.heap.size, 0, none⟩) 1 1 [K + 1] (w1.alloc (.cells #[.int .u32 ((K : Int) + 1)] 184)) (w1.heap.size + 1)
    ((ho1.sl.below ((Below.refl _ _).alloc (Nat.le_refl _) _)).mono (by omega)) (Sl.one w1 _ _ _ (congrArg (Value.int .u32) (by omega))) (by simp) hn1.dig (Digs.one (by omega)) (by omega) (by omega) (by simp [val])
  rw [show val 4294967296 [K + 1] = K + 1 by simp [val], hn1.val_] at t2
  refine t2.mono ?_
  rintro e w2 ⟨gq, nq, cq, lq, gr, nr, cr, lr, rfl, hoq, hnq, _, _, hb2⟩
  clear t2
  go_wp2
  go_ret
  have b1 : Below w.heap.size w w1 := ((Below.refl _ _).alloc (Nat.le_refl _) _).trans (hb1.mono (by simp))
  have b2 : Below w.heap.size w1 w2 := ((Below.refl _ _).alloc (by omega) _).trans (hb2.mono (by simp; omega))
  exact ⟨_, _, _, _, rfl, hoq.mono (by simp; omega), hnq, b1.trans b2⟩

set_option maxHeartbeats 800000 in
theorem choose_c (N : Nat) (k : Int) (w : World) (hN : N ≤ 512) (hk : -9223372036854775808 ≤ k) (hk2 : k ≤ 9223372036854775807) :
    Calls Try.prog 84 #[.int .i64 N, .int .i64 k] w (NatV w (Ci N k)) := by
  by_cases hneg : k < 0
  · rw [Ci_out (.inl hneg)]
    go_enter Try.func84, Try.ntmps84
    go_wp2
    go_ret
    exact ⟨_, _, _, _, rfl, Sl.nil _ _ _ _ _ (by omega), Num.nil _, Below.refl _ _⟩
  · by_cases hgt : (N : Int) < k
    · rw [Ci_out (.inr hgt)]
      go_enter Try.func84, Try.ntmps84
      go_wp2
      go_ret
      exact ⟨_, _, _, _, rfl, Sl.nil _ _ _ _ _ (by omega), Num.nil _, Below.refl _ _⟩
    · obtain ⟨K, rfl⟩ := Int.eq_ofNat_of_zero_le (show 0 ≤ k by omega)
      have hK : K ≤ N := by omega
      obtain ⟨M, HM, hM1, hM2⟩ : ∃ M, Hid (min K (N - K) = M) ∧ M ≤ K ∧ M ≤ N - K := ⟨_, rfl, by omega, by omega⟩
      rw [Ci_nat, ← Cn_min hK, HM.out]
      have hnn : decide ((K : Int) < 0) = false := by simp
      have hng : decide ((N : Int) < K) = false := by simp; omega
      clear hneg hgt
      go_enter Try.func84, Try.ntmps84
      go_wp2_with (with_reducible refine wl_min _ rfl _ _ _ rfl _ _ _ _ (M : Nat) rfl rfl (by have := HM.out; omega) ?_)
      go_loopw [5, 20] (fun v iv wr => ∃ (i : Nat) (A : Option Addr) (n c : Nat) (l : List Nat), i ≤ M ∧ iv = .int .i64 i ∧ v = .slice A n c ∧ Sl wr wr.heap.size .u32 A n c l ∧ Num 4294967296 l (Cn N i) ∧ Below w.heap.size w wr)
        (fun _ iv _ => M - (intOf iv).toNat)
      case atStart =>
        exact ⟨0, _, _, _, [1], by omega, rfl, rfl, (Sl.one w _ _ 1 rfl).mono (by simp), ⟨Digs.one (by omega), by rw [Cn_zero]; simp [val], fun i hi => by simp at hi; subst hi; simp⟩, (Below.refl _ _).alloc (Nat.le_refl _) _⟩
      case round =>
        obtain ⟨i, A, n, c, l, hi, rfl, rfl, hs, hn, hb⟩ := hrel
        by_cases hlt : i < M
        · have hlen := hn.len_Cn hN hs.len
          have hnx := next_c A n c l wr _ N i hs (Nat.le_refl _) hn.dig (by omega) (by omega) (by omega)
          rw [hn.val_, Cn_next] at hnx
          go_wp2_with fail
          refine hnx.mono ?_
          rintro e w2 ⟨g2, n2, c2, l2, rfl, ho2, hn2, hb2⟩
          clear hnx
          go_wp2
          go_roundw
          case rel => exact ⟨i + 1, _, _, _, l2, by omega, by go_num, rfl, ho2.sl, hn2, hb.trans (hb2.mono hb.size)⟩
          case measure => simp [intOf] <;> omega
        · obtain rfl : i = M := by omega
          go_wp2
          go_ret
          exact ⟨_, _, _, _, rfl, hs, hn, hb⟩
end Go.Proofs.Ytchhkokpjdkkiaa.Ex

namespace Go.Proofs.Ytchhkokpjdkkiaa.Ex
open Go.RowKit

theorem Sl.pair (w : World) (E : TypeId) (k : IntKind) (x y : Nat) {v u : Value} (hv : v = .int k x) (hu : u = .int k y) : Sl (w.alloc (.cells #[v, u] E)) (w.heap.size + 1) k (some ⟨w.heap.size, 0, none⟩) 2 2 [x, y] := by
  subst hv hu
  refine ⟨rfl, Nat.le_refl _, by omega, fun _ => ⟨w.heap.size, 0, rfl, by omega, fun j hj => ?_⟩⟩
  rw [World.cell?_alloc_at _ _ _ _ rfl]
  rcases (show j = 0 ∨ j = 1 by omega) with rfl | rfl <;> rfl

set_option maxHeartbeats 400000 in
theorem of_c (N : Nat) (w : World) (hN : N < 18446744073709551616) : Calls Try.prog 49 #[.int .u64 N] w (NatR w N) := by
  go_enter Try.func49, Try.ntmps49
  go_wp2_with fail
  have hs := Sl.pair w 184 .u32 (N % 4294967296) (N / 4294967296) (v := .int .u32 ((N : Int) % 4294967296)) (u := .int .u32 ((N : Int) / 4294967296)) rfl rfl
  have hd : Digs 4294967296 [N % 4294967296, N / 4294967296] := fun x hx => by
    simp at hx
    rcases hx with rfl | rfl <;> omega
  have hb := (Below.refl w.heap.size w).alloc (Nat.le_refl _) (.cells #[.int .u32 ((N : Int) % 4294967296), .int .u32 ((N : Int) / 4294967296)] 184)
  have hc := clone_c _ _ _ _ _ _ hs (by simp) hd (by omega)
  rw [show val 4294967296 [N % 4294967296, N / 4294967296] = N by simp only [val]; omega] at hc
  refine hc.mono ?_
  rintro e w1 ⟨g, n, c, l, rfl, ho, hn, hb1⟩
  go_wp2
  go_ret
  exact ⟨g, n, c, l, rfl, ho.mono hb.size, hn, hb.trans (hb1.mono hb.size)⟩
end Go.Proofs.Ytchhkokpjdkkiaa.Ex

namespace Go.Proofs.Ytchhkokpjdkkiaa.Ex
open Go.RowKit

/-- A number of the reference: its digits to the base 256, normal. -/
def DigV (w : World) (N : Nat) (e : Ending) (w' : World) : Prop :=
  ∃ A n c l, e = .returned (.slice A n c) ∧ Sl w' w'.heap.size .i64 A n c l ∧ Num 256 l N ∧ Below w.heap.size w w' ∧ (∀ g, A.map (·.block) = some g → w.heap.size ≤ g)

theorem Sl.oneI (w : World) (E : TypeId) (k : IntKind) (x : Nat) {v : Value} (hv : v = .int k x) : Sl (w.alloc (.cells #[v] E)) (w.heap.size + 1) k (some ⟨w.heap.size, 0, none⟩) 1 1 [x] := by
  subst hv
  refine ⟨rfl, Nat.le_refl _, by omega, fun _ => ⟨w.heap.size, 0, rfl, by omega, fun j hj => ?_⟩⟩
  obtain rfl : j = 0 := by omega
  rw [World.cell?_alloc_at _ _ _ _ rfl]
  rfl

/-- What an append to a slice of the call's own, which lies below nothing else, leaves of the rest. -/
theorem Own.block {w : World} {base : Nat} {E : TypeId} {k : IntKind} {A : Option Addr} {n c : Nat} {l : List Nat} (h : Own w base E k A n c l) : ∀ g, A.map (·.block) = some g → base ≤ g ∧ g < w.heap.size := by
  intro g hg
  rcases h.form with ⟨rfl, _⟩ | ⟨g', _, rfl, h1, h2, _⟩
  · cases hg
  · simp at hg; omega

end Go.Proofs.Ytchhkokpjdkkiaa.Ex

namespace Go.Proofs.Ytchhkokpjdkkiaa.Ex

/-- A sum that is appended to, digit by digit. -/
structure AddI (b : Nat) (la lb lo : List Nat) (i carry : Nat) : Prop where
  len : lo.length = i
  dig : Digs b lo
  val_ : val b lo + b ^ i * carry = val b (la.take i) + val b (lb.take i)
theorem AddI.start (b : Nat) (la lb : List Nat) : AddI b la lb [] 0 0 := ⟨rfl, Digs.nil _, by simp [val]⟩
theorem AddI.step {b : Nat} {la lb lo : List Nat} {i carry x y t : Nat} (hb : 0 < b) (h : AddI b la lb lo i carry) (hx : la.getD i 0 = x) (hy : lb.getD i 0 = y) (ht : carry + x + y = t) :
    AddI b la lb (lo ++ [t % b]) (i + 1) (t / b) := by
  refine ⟨by rw [List.length_append, h.len]; rfl, h.dig.append (Digs.one (Nat.mod_lt _ hb)), ?_⟩
  have h1 := h.val_
  rw [val_append, val_take_succ, val_take_succ, Nat.pow_succ, hx, hy, h.len]
  have e := Nat.div_add_mod t b
  generalize t % b = r at *
  generalize t / b = q at *
  simp only [val]
  subst ht
  grind
theorem AddI.done {b : Nat} {la lb lo : List Nat} {i : Nat} (h : AddI b la lb lo i 0) (ha : la.length ≤ i) (hb : lb.length ≤ i) : val b lo = val b la + val b lb := by
  have h1 := h.val_
  rw [List.take_of_length_le ha, List.take_of_length_le hb] at h1
  simpa using h1

/-- A difference that is appended to, digit by digit. -/
structure SubI (b : Nat) (la lb lo : List Nat) (i borrow : Nat) : Prop where
  len : lo.length = i
  dig : Digs b lo
  val_ : val b lo + val b (lb.take i) = val b (la.take i) + b ^ i * borrow
theorem SubI.start (b : Nat) (la lb : List Nat) : SubI b la lb [] 0 0 := ⟨rfl, Digs.nil _, by simp [val]⟩
theorem SubI.step {b : Nat} {la lb lo : List Nat} {i borrow borrow' x y z : Nat} (h : SubI b la lb lo i borrow) (hx : la.getD i 0 = x) (hy : lb.getD i 0 = y) (hzb : z < b)
    (hz : z + y + borrow = x + b * borrow') : SubI b la lb (lo ++ [z]) (i + 1) borrow' := by
  refine ⟨by rw [List.length_append, h.len]; rfl, h.dig.append (Digs.one hzb), ?_⟩
  have h1 := h.val_
  rw [val_append, val_take_succ, val_take_succ, Nat.pow_succ, hx, hy, h.len]
  simp only [val]
  grind
theorem SubI.done {b : Nat} {la lb lo : List Nat} {n borrow : Nat} (h : SubI b la lb lo n borrow) (ha : la.length ≤ n) (hb : lb.length ≤ n) (hle : val b lb ≤ val b la) : val b lo = val b la - val b lb := by
  have h1 := h.val_
  rw [List.take_of_length_le hb, List.take_of_length_le ha] at h1
  have h2 := val_lt h.dig
  rw [h.len] at h2
  have hc : borrow = 0 := by
    rcases Nat.eq_zero_or_pos borrow with h0 | h0
    · exact h0
    · have : b ^ n * 1 ≤ b ^ n * borrow := Nat.mul_le_mul_left _ h0
      omega
  subst hc
  omega
end Go.Proofs.Ytchhkokpjdkkiaa.Ex

namespace Go.Proofs.Ytchhkokpjdkkiaa.Ex
open Go.RowKit

end Go.Proofs.Ytchhkokpjdkkiaa.Ex

namespace Go.Proofs.Ytchhkokpjdkkiaa.Ex
open Go.RowKit

theorem u8_mul_le {x y : Nat} (hx : x < 256) (hy : y < 256) : x * y ≤ 65025 :=
  Nat.mul_le_mul (show x ≤ 255 by omega) (show y ≤ 255 by omega)

end Go.Proofs.Ytchhkokpjdkkiaa.Ex

namespace Go.Proofs.Ytchhkokpjdkkiaa.Ex
open Go.RowKit

/-- A block that is known whole. -/
def Blk (w : World) (g : Nat) (t : TypeId) (cs : Array Value) : Prop := w.heap[g]? = some (.cells cs t (0, 0))
section
variable {w w' : World} {g : Nat} {t : TypeId} {cs : Array Value}
theorem Blk.lt (h : Blk w g t cs) : g < w.heap.size := by
  rcases Nat.lt_or_ge g w.heap.size with hlt | hge
  · exact hlt
  · unfold Blk at h; rw [Array.getElem?_eq_none hge] at h; cases h
theorem Blk.cell (h : Blk w g t cs) (i : Nat) : w.cell? ⟨g, i, none⟩ = cs[i]? := cell_of_row w g i cs t (0, 0) h
theorem Blk.frozen (h : Blk w g t cs) (i : Nat) : w.frozen? ⟨g, i, none⟩ = false := by
  unfold Blk at h
  simp [World.frozen?, h]
theorem Blk.new (w : World) (t : TypeId) (cs : Array Value) : Blk (w.alloc (.cells cs t)) w.heap.size t cs := heap_alloc_new w _
theorem Blk.drew (h : Blk w g t cs) : Blk w.drew g t cs := h
theorem Blk.drewN (h : Blk w g t cs) (n : Nat) : Blk (w.drewN n) g t cs := h
theorem Blk.alloc (h : Blk w g t cs) (o : Obj) : Blk (w.alloc o) g t cs := (Below.heap_alloc w o g h.lt).trans h
theorem Blk.set_ (h : Blk w g t cs) (i : Nat) (u : Value) : Blk (w.setCell ⟨g, i, none⟩ u) g t (cs.setIfInBounds i u) := by
  unfold Blk at h ⊢
  simp [World.setCell, Array.getElem?_modify, h]
theorem Blk.two {x y : Value} (h : Blk w g t #[x, y]) (a b : Value) : Blk ((w.setCell ⟨g, 0, none⟩ a).setCell ⟨g, 1, none⟩ b) g t #[a, b] := (h.set_ 0 a).set_ 1 b
theorem below_two {B : Nat} {w0 : World} (h : Below B w0 w) (hg : B ≤ g) (a b : Value) : Below B w0 ((w.setCell ⟨g, 0, none⟩ a).setCell ⟨g, 1, none⟩ b) := (h.setCell hg _).setCell hg _
theorem Own.two {base : Nat} {E : TypeId} {k : IntKind} {A : Option Addr} {n c : Nat} {l : List Nat} (h : Own w base E k A n c l) (hp : ∀ g', A = some ⟨g', 0, none⟩ → g' ≠ g) (a b : Value) :
    Own ((w.setCell ⟨g, 0, none⟩ a).setCell ⟨g, 1, none⟩ b) base E k A n c l := (h.far hp _).far hp _
theorem Blk.far (h : Blk w g t cs) {p : Addr} (hp : g ≠ p.block) (u : Value) : Blk (w.setCell p u) g t cs := (Below.heap_setCell w p u g hp).trans h
theorem Blk.below {B : Nat} (h : Blk w g t cs) (hb : Below B w w') (hg : g < B) : Blk w' g t cs := (hb.block g hg).trans h
theorem Blk.keep (h : Blk w g t cs) (hb : Below w.heap.size w w') : Blk w' g t cs := h.below hb h.lt
theorem Blk.grown {row : Option Nat} (h : Blk w g t cs) (hb : w.grownBy w' row) (hg : some g ≠ row) : Blk w' g t cs := (hb.block g h.lt hg).trans h
end
end Go.Proofs.Ytchhkokpjdkkiaa.Ex
