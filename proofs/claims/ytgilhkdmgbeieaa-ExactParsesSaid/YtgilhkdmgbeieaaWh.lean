/- Contracts of exact's fit, Check, check, sane, next, choose. -/
import Derived.Test.YtgilhkdmgbeieaaWg
import Derived.Test.YtgilhkdmgbeieaaWe
import Derived.Test.YtgilhkdmgbeieaaMathD
namespace Go.Proofs.Ytgilhkdmgbeieaa
open Go.RowKit

/-- A number in memory. -/
def NatV (w : World) (N : Nat) (e : Ending) (w' : World) : Prop :=
  ∃ A n c l, e = .returned (.slice A n c) ∧ Sl w' w'.heap.size .u32 A n c l ∧ Num 4294967296 l N ∧ Below w.heap.size w w'
theorem NatR.v {w w' : World} {N : Nat} {e : Ending} (h : NatR w N e w') : NatV w N e w' := by
  obtain ⟨g, n, c, l, he, ho, hn, hb⟩ := h
  exact ⟨_, _, _, _, he, ho.sl, hn, hb⟩

theorem Sl.one (w : World) (E : TypeId) (k : IntKind) (x : Nat) {v : Value} (hv : v = .int k x) : Sl (w.alloc (.cells #[v] E)) (w.heap.size + 1) k (some ⟨w.heap.size, 0, none⟩) 1 1 [x] := by
  subst hv
  refine ⟨rfl, Nat.le_refl _, by omega, fun _ => ⟨w.heap.size, 0, rfl, by omega, fun j hj => ?_⟩⟩
  obtain rfl : j = 0 := by omega
  rw [World.cell?_alloc_at _ _ _ _ rfl]
  rfl

/-- What fit, and all that end in it, return: a number, or ErrOver. -/
def FitR (w : World) (N : Nat) (e : Ending) (w' : World) : Prop := Below w.heap.size w w' ∧
  ((Fits N ∧ ∃ g n c l, e = .returned (.tuple #[.slice (some ⟨g, 0, none⟩) n c, .int .i64 0]) ∧ Own w' w.heap.size 58 .u32 (some ⟨g, 0, none⟩) n c l ∧ Num 4294967296 l N) ∨
   (¬ Fits N ∧ e = .returned (.tuple #[.slice none 0 0, .int .i64 8])))

set_option maxHeartbeats 400000 in
theorem fit_c (A : Option Addr) (n c : Nat) (l : List Nat) (w : World) (B : Nat) (h : Sl w B .u32 A n c l) (hB : B ≤ w.heap.size) (hd : Digs 4294967296 l) (hn : n ≤ 1099511627776) :
    Calls Try.prog 102 #[.slice A n c] w (FitR w (val 4294967296 l)) := by
  have hc := clone_c A n c l w B h hB hd hn
  go_enter Try.func102, Try.ntmps102
  go_wp2_with fail
  refine hc.mono ?_
  rintro e w1 ⟨g, n1, c1, l1, rfl, ho, hn1, hb⟩
  clear hc
  have hm := ho.sl.max
  have hcap := ho.sl.cap
  have HLE := hide hn1.fits
  by_cases h64 : n1 ≤ 64
  · go_wp2
    go_ret2
    exact ⟨hb, .inl ⟨HLE.out.1 (by rw [ho.len]; exact h64), _, _, _, _, rfl, ho, hn1⟩⟩
  · go_wp2
    go_ret2
    exact ⟨hb, .inr ⟨fun hp => h64 (by rw [← ho.len]; exact HLE.out.2 hp), rfl⟩⟩

set_option maxHeartbeats 400000 in
theorem check1_c (A : Option Addr) (n c : Nat) (w : World) (hn : n ≤ 9223372036854775807) :
    Calls Try.prog 59 #[.slice A n c] w fun e w' => e = .returned (.int .i64 (if n ≤ 64 then 0 else 4)) ∧ w = w' := by
  by_cases h64 : n ≤ 64
  · rw [if_pos h64]
    go_enter Try.func59, Try.ntmps59
    go_wp2
    go_ret
    exact ⟨rfl, rfl⟩
  · rw [if_neg h64]
    go_enter Try.func59, Try.ntmps59
    go_wp2
    go_ret
    exact ⟨rfl, rfl⟩

set_option maxHeartbeats 400000 in
theorem check2_c (A : Option Addr) (n c : Nat) (A' : Option Addr) (n' c' : Nat) (w : World) (hn : n ≤ 9223372036854775807) (hn' : n' ≤ 9223372036854775807) :
    Calls Try.prog 101 #[.slice A n c, .slice A' n' c'] w fun e w' => e = .returned (.int .i64 (if n ≤ 64 ∧ n' ≤ 64 then 0 else 4)) ∧ w = w' := by
  have h1 := check1_c A n c w hn
  have h2 := check1_c A' n' c' w hn'
  by_cases h : n ≤ 64 <;> by_cases h' : n' ≤ 64
  all_goals
    simp only [h, h', if_true, if_false, and_self, and_false, false_and] at h1 h2 ⊢
    go_enter Try.func101, Try.ntmps101
    go_wp2_with fail
    refine h1.mono ?_
    rintro e w' ⟨rfl, rfl⟩
    go_wp2_with fail
    refine h2.mono ?_
    rintro e w' ⟨rfl, rfl⟩
    clear h1 h2
    go_wp2
    go_ret
    exact ⟨rfl, rfl⟩

def saneB (t p : Int) : Bool := decide (0 ≤ t) && decide (t ≤ 512) && decide (0 ≤ p) && decide (p ≤ t)
theorem saneB_true {t p : Int} : saneB t p = true ↔ 0 ≤ t ∧ t ≤ 512 ∧ 0 ≤ p ∧ p ≤ t := by simp [saneB, and_assoc]
set_option maxHeartbeats 400000 in
theorem sane_c (t p : Int) (w : World) : Calls Try.prog 71 #[.int .i64 t, .int .i64 p] w fun e w' => e = .returned (.bool (saneB t p)) ∧ w = w' := by
  by_cases h1 : 0 ≤ t
  · by_cases h2 : t ≤ 512
    · by_cases h3 : 0 ≤ p
      · by_cases h4 : p ≤ t
        · rw [show saneB t p = true from saneB_true.2 ⟨h1, h2, h3, h4⟩]
          go_enter Try.func71, Try.ntmps71
          go_wp2
          go_ret
          exact ⟨rfl, rfl⟩
        · rw [show saneB t p = false by simp [saneB, h4]]
          go_enter Try.func71, Try.ntmps71
          go_wp2
          go_ret
          exact ⟨rfl, rfl⟩
      · rw [show saneB t p = false by simp [saneB, h3]]
        have h3' : decide (0 ≤ p) = false := by simpa using h3
        go_enter Try.func71, Try.ntmps71
        go_wp2
        go_ret
        exact ⟨rfl, rfl⟩
    · rw [show saneB t p = false by simp [saneB, h2]]
      have h2' : decide (t ≤ 512) = false := by simpa using h2
      go_enter Try.func71, Try.ntmps71
      go_wp2
      go_ret
      exact ⟨rfl, rfl⟩
  · rw [show saneB t p = false by simp [saneB, h1]]
    have h1' : decide (0 ≤ t) = false := by simpa using h1
    go_enter Try.func71, Try.ntmps71
    go_wp2
    go_ret
    exact ⟨rfl, rfl⟩
set_option maxHeartbeats 800000 in
/-- 'next': the quotient of c (n - k) and k + 1. -/
theorem next_c (A : Option Addr) (n c : Nat) (l : List Nat) (w : World) (B : Nat) (N K : Nat) (h : Sl w B .u32 A n c l) (hB : B ≤ w.heap.size) (hd : Digs 4294967296 l) (hn : n ≤ 1048576) (hK : K ≤ N) (hN : N ≤ 4294967294) :
    Calls Try.prog 87 #[.slice A n c, .int .i64 N, .int .i64 K] w (NatR w (val 4294967296 l * (N - K) / (K + 1))) := by
  go_enter Try.func87, Try.ntmps87
  go_wp2_with fail
  have t1 := times_c A n c l (some ⟨w.heap.size, 0, none⟩) 1 1 [N - K] (w.alloc (.cells #[.int .u32 ((N : Int) - K)] 58)) (w.heap.size + 1)
    ((h.below ((Below.refl _ _).alloc hB _)).mono (by omega)) (Sl.one w _ _ _ (congrArg (Value.int .u32) (by omega))) (by simp) hd (Digs.one (by omega)) (by omega) (by omega)
  rw [show val 4294967296 [N - K] = N - K by simp [val]] at t1
  refine t1.mono ?_
  rintro e w1 ⟨g, n1, c1, l1, rfl, ho1, hn1, hb1⟩
  clear t1
  have hs1 : w.heap.size + 1 ≤ w1.heap.size := by have := hb1.size; simpa using this
  have hlen : n1 ≤ n + 1 := by
    have h2 : val 4294967296 l * (N - K) < 4294967296 ^ (n + 1) := by
      have h3 := val_lt hd
      rw [h.len] at h3
      rw [Nat.pow_succ]
      exact Nat.mul_lt_mul_of_lt_of_le h3 (by omega) (by omega)
    have := (hn1.length_le (by omega) (n + 1)).2 h2
    rwa [ho1.len] at this
  go_wp2_with fail
  have t2 := split_c (some ⟨g, 0, none⟩) n1 c1 l1 (some ⟨w1.heap.size, 0, none⟩) 1 1 [K + 1] (w1.alloc (.cells #[.int .u32 ((K : Int) + 1)] 58)) (w1.heap.size + 1)
    ((ho1.sl.below ((Below.refl _ _).alloc (Nat.le_refl _) _)).mono (by omega)) (Sl.one w1 _ _ _ (congrArg (Value.int .u32) (by omega))) (by simp) hn1.dig (Digs.one (by omega)) (by omega) (by omega) (by simp [val])
  rw [show val 4294967296 [K + 1] = K + 1 by simp [val], hn1.val_] at t2
  refine t2.mono ?_
  rintro e w2 ⟨gq, nq, cq, lq, gr, nr, cr, lr, rfl, hoq, hnq, _, _, hb2⟩
  clear t2
  go_wp2
  go_ret
  have b1 : Below w.heap.size w w1 := ((Below.refl _ _).alloc (Nat.le_refl _) _).trans (hb1.mono (by simp))
  have b2 : Below w.heap.size w1 w2 := ((Below.refl _ _).alloc (by omega) _).trans (hb2.mono (by simp; omega))
  exact ⟨_, _, _, _, rfl, hoq.mono (by simp; omega), hnq, b1.trans b2⟩

set_option maxHeartbeats 800000 in
theorem choose_c (N : Nat) (k : Int) (w : World) (hN : N ≤ 512) (hk : -9223372036854775808 ≤ k) (hk2 : k ≤ 9223372036854775807) :
    Calls Try.prog 74 #[.int .i64 N, .int .i64 k] w (NatV w (Ci N k)) := by
  by_cases hneg : k < 0
  · rw [Ci_out (.inl hneg)]
    go_enter Try.func74, Try.ntmps74
    go_wp2
    go_ret
    exact ⟨_, _, _, _, rfl, Sl.nil _ _ _ _ _ (by omega), Num.nil _, Below.refl _ _⟩
  · by_cases hgt : (N : Int) < k
    · rw [Ci_out (.inr hgt)]
      go_enter Try.func74, Try.ntmps74
      go_wp2
      go_ret
      exact ⟨_, _, _, _, rfl, Sl.nil _ _ _ _ _ (by omega), Num.nil _, Below.refl _ _⟩
    · obtain ⟨K, rfl⟩ := Int.eq_ofNat_of_zero_le (show 0 ≤ k by omega)
      have hK : K ≤ N := by omega
      obtain ⟨M, HM, hM1, hM2⟩ : ∃ M, Hid (min K (N - K) = M) ∧ M ≤ K ∧ M ≤ N - K := ⟨_, rfl, by omega, by omega⟩
      rw [Ci_nat, ← Cn_min hK, HM.out]
      have hnn : decide ((K : Int) < 0) = false := by simp
      have hng : decide ((N : Int) < K) = false := by simp; omega
      clear hneg hgt
      go_enter Try.func74, Try.ntmps74
      go_wp2_with (with_reducible refine wl_min _ rfl _ _ _ rfl _ _ _ _ (M : Nat) rfl rfl (by have := HM.out; omega) ?_)
      go_loopw [5, 20] (fun v iv wr => ∃ (i : Nat) (A : Option Addr) (n c : Nat) (l : List Nat), i ≤ M ∧ iv = .int .i64 i ∧ v = .slice A n c ∧ Sl wr wr.heap.size .u32 A n c l ∧ Num 4294967296 l (Cn N i) ∧ Below w.heap.size w wr)
        (fun _ iv _ => M - (intOf iv).toNat)
      case atStart =>
        exact ⟨0, _, _, _, [1], by omega, rfl, rfl, (Sl.one w _ _ 1 rfl).mono (by simp), ⟨Digs.one (by omega), by rw [Cn_zero]; simp [val], fun i hi => by simp at hi; subst hi; simp⟩, (Below.refl _ _).alloc (Nat.le_refl _) _⟩
      case round =>
        obtain ⟨i, A, n, c, l, hi, rfl, rfl, hs, hn, hb⟩ := hrel
        by_cases hlt : i < M
        · have hlen := hn.len_Cn hN hs.len
          have hnx := next_c A n c l wr _ N i hs (Nat.le_refl _) hn.dig (by omega) (by omega) (by omega)
          rw [hn.val_, Cn_next] at hnx
          go_wp2_with fail
          refine hnx.mono ?_
          rintro e w2 ⟨g2, n2, c2, l2, rfl, ho2, hn2, hb2⟩
          clear hnx
          go_wp2
          go_roundw
          case rel => exact ⟨i + 1, _, _, _, l2, by omega, by go_num, rfl, ho2.sl, hn2, hb.trans (hb2.mono hb.size)⟩
          case measure => simp [intOf] <;> omega
        · obtain rfl : i = M := by omega
          go_wp2
          go_ret
          exact ⟨_, _, _, _, rfl, hs, hn, hb⟩
end Go.Proofs.Ytgilhkdmgbeieaa
