/- Contracts of Binomial and Ball, exact's and the reference's, and of the law's num. -/
import Derived.Test.YtgilhkdmgbeieaaRi
import Derived.Test.YtgilhkdmgbeieaaOa
namespace Go.Proofs.Ytgilhkdmgbeieaa
open Go.RowKit

/-- The ball: how many sets of n things have fewer than m. -/
def Bn (n : Nat) : Nat → Nat
  | 0 => 0
  | m + 1 => Bn n m + Cn n m
theorem Bn_stop {n : Nat} : ∀ {m k : Nat}, n + 1 ≤ k → k ≤ m → Bn n m = Bn n k
  | 0, k, h1, h2 => by omega
  | m + 1, k, h1, h2 => by
    rcases Nat.lt_or_ge m k with h | h
    · obtain rfl : k = m + 1 := by omega
      rfl
    · rw [Bn, Bn_stop h1 h, Cn_gt n m (by omega)]; rfl
theorem Bn_le {n e : Nat} (hn : n ≤ e) : ∀ m : Nat, Bn n m ≤ m * 2 ^ e
  | 0 => by simp [Bn]
  | m + 1 => by
    rw [Bn, Nat.add_mul, Nat.one_mul]
    exact Nat.add_le_add (Bn_le hn m) (Nat.le_trans (Cn_le n m) (Nat.pow_le_pow_right (by omega) hn))
theorem Bn_bound {n e m g : Nat} (hn : n ≤ e) (hm : m ≤ 2 ^ g) : Bn n m ≤ 2 ^ (g + e) := by
  rw [Nat.pow_add]; exact Nat.le_trans (Bn_le hn m) (Nat.mul_le_mul_right _ hm)
theorem Num.len_BnE {l : List Nat} {t m e g k n : Nat} (h : Num 4294967296 l (Bn t m)) (ht : t ≤ e) (hm : m ≤ 2 ^ g) (hk : g + e < 32 * k) (hl : l.length = n) : n ≤ k := by
  rw [← hl]; exact (h.length_le (by omega) k).2 (lt_pow_of_le (Bn_bound ht hm) rfl k hk)
theorem Num.len_Bn {l : List Nat} {t m n : Nat} (h : Num 4294967296 l (Bn t m)) (ht : t ≤ 512) (hm : m ≤ 513) (hl : l.length = n) : n ≤ 17 :=
  h.len_BnE (e := 512) (g := 10) (k := 17) ht (by omega) (by decide) hl
theorem Num.len8_BnE {l : List Nat} {t m e g k n : Nat} (h : Num 256 l (Bn t m)) (ht : t ≤ e) (hm : m ≤ 2 ^ g) (hk : g + e < 8 * k) (hl : l.length = n) : n ≤ k :=
  h.len8 (Bn_bound ht hm) hk hl
theorem Num.len8_Bn {l : List Nat} {t m n : Nat} (h : Num 256 l (Bn t m)) (ht : t ≤ 512) (hm : m ≤ 513) (hl : l.length = n) : n ≤ 70 :=
  h.len8_BnE (e := 512) (g := 10) (k := 70) ht (by omega) (by decide) hl

/-- A number and an error in memory. -/
def NumV (w : World) (S : List Nat → Int → Prop) (e : Ending) (w' : World) : Prop :=
  ∃ A n c l err, e = .returned (.tuple #[.slice A n c, .int .i64 err]) ∧ Sl w' w'.heap.size .u32 A n c l ∧ S l err ∧ Below w.heap.size w w'

/-- A number where n is in the range, else the error 3. -/
def SCount (n : Int) (N : Nat) (l : List Nat) (err : Int) : Prop :=
  (0 ≤ n ∧ n ≤ 512 ∧ Num 4294967296 l N ∧ err = 0) ∨ (¬ (0 ≤ n ∧ n ≤ 512) ∧ l = [] ∧ err = 3)
theorem SCount.uniq {n : Int} {N : Nat} {l m : List Nat} {e f : Int} (h : SCount n N l e) (k : SCount n N m f) : l = m ∧ e = f := by
  rcases h with ⟨h1, h2, h3, h4⟩ | ⟨h1, h3, h4⟩ <;> rcases k with ⟨k1, k2, k3, k4⟩ | ⟨k1, k3, k4⟩
  · exact ⟨h3.uniq k3 (by omega), by rw [h4, k4]⟩
  · exact absurd ⟨h1, h2⟩ k1
  · exact absurd ⟨k1, k2⟩ h1
  · exact ⟨by rw [h3, k3], by rw [h4, k4]⟩

set_option maxHeartbeats 800000 in
theorem xbin_c (n k : Int) (w : World) (hk : -9223372036854775808 ≤ k) (hk2 : k ≤ 9223372036854775807) :
    Calls Try.prog 28 #[.int .i64 n, .int .i64 k] w (NumV w (SCount n (Ci n.toNat k))) := by
  by_cases h : 0 ≤ n ∧ n ≤ 512
  · obtain ⟨N, rfl⟩ := Int.eq_ofNat_of_zero_le h.1
    have hN : N ≤ 512 := by omega
    go_enter Try.func28, Try.ntmps28
    go_wp2_with fail
    refine (choose_c N k w hN hk hk2).mono ?_
    rintro e w1 ⟨A, m, c, l, rfl, s1, N1, hb⟩
    go_wp2
    go_ret2
    exact ⟨_, _, _, _, _, rfl, s1, .inl ⟨h.1, h.2, N1, rfl⟩, hb⟩
  · have hc : n < 0 ∨ (0 ≤ n ∧ 512 < n) := by omega
    rcases hc with hc | hc
    all_goals
      go_enter Try.func28, Try.ntmps28
      go_wp2
      go_ret2
      exact ⟨_, _, _, _, _, rfl, Sl.nil _ _ _ _ _ (by omega), .inr ⟨h, rfl, rfl⟩, Below.refl _ _⟩

set_option maxHeartbeats 1600000 in
theorem rbin_c (n k : Int) (w : World) :
    Calls Try.prog 29 #[.int .i64 n, .int .i64 k] w (NumV w (SCount n (Ci n.toNat k))) := by
  by_cases h : 0 ≤ n ∧ n ≤ 512
  · obtain ⟨N, rfl⟩ := Int.eq_ofNat_of_zero_le h.1
    have hN : N ≤ 512 := by omega
    by_cases hkk : 0 ≤ k ∧ k ≤ (N : Int)
    · obtain ⟨K, rfl⟩ := Int.eq_ofNat_of_zero_le hkk.1
      go_enter Try.func29, Try.ntmps29
      go_wp2_with fail
      refine (rrow_c N w hN).mono ?_
      rintro e w1 ⟨A, c, vs, rfl, o1, N1, hb1⟩
      obtain ⟨Ad, nd, cd, ld, hv, sd, Nd⟩ := N1.at_ (j := K) (by rw [o1.len]; omega)
      obtain ⟨g, rfl, hg, hcell⟩ := o1.cell hv
      have hl := Nd.len8_Cn hN sd.len
      go_wp2_with fail
      refine (rnat_c _ _ _ _ _ w1 _ sd (Nat.le_refl _) Nd (by omega)).mono ?_
      rintro e w2 ⟨A2, n2, c2, l2, rfl, s2, N2, hb2, _⟩
      have hbw := hb1.trans (hb2.mono hb1.size)
      go_wp2
      go_ret2
      exact ⟨_, _, _, _, _, rfl, s2, .inl ⟨h.1, h.2, by show Num _ _ (Ci N (K : Int)); rw [Ci_nat]; exact N2, rfl⟩, hbw⟩
    · have hout : Ci N k = 0 := Ci_out (by omega)
      have hc : k < 0 ∨ (0 ≤ k ∧ (N : Int) < k) := by omega
      rcases hc with hc | hc
      all_goals
        go_enter Try.func29, Try.ntmps29
        go_wp2
        go_ret2
        exact ⟨_, _, _, _, _, rfl, Sl.nil _ _ _ _ _ (by omega), .inl ⟨h.1, h.2, by show Num _ _ (Ci N k); rw [hout]; exact Num.nil _, rfl⟩, Below.refl _ _⟩
  · have hc : n < 0 ∨ (0 ≤ n ∧ 512 < n) := by omega
    rcases hc with hc | hc
    all_goals
      go_enter Try.func29, Try.ntmps29
      go_wp2
      go_ret2
      exact ⟨_, _, _, _, _, rfl, Sl.nil _ _ _ _ _ (by omega), .inr ⟨h, rfl, rfl⟩, Below.refl _ _⟩

set_option maxHeartbeats 800000 in
theorem lnum_c (A : Option Addr) (n c : Nat) (l : List Nat) (C : Option Addr) (m d : Nat) (err : Int) (w : World) (s1 : Sl w w.heap.size .u32 A n c l) (s2 : Sl w w.heap.size .u32 C m d l) :
    Calls Try.prog 30 #[.slice A n c, .int .i64 err, .slice C m d, .int .i64 err] w fun e w' => e = .returned (.bool true) ∧ ∃ q, w' = w.drewN q := by
  go_enter Try.func30, Try.ntmps30
  go_wp2_with fail
  refine (rsame_c _ _ _ _ _ _ _ _ w _ s1 s2).mono ?_
  rintro e w' ⟨rfl, q, rfl⟩
  rw [show decide (l = l) = true by simp]
  go_wp2
  go_ret
  exact ⟨rfl, q, rfl⟩
end Go.Proofs.Ytgilhkdmgbeieaa
