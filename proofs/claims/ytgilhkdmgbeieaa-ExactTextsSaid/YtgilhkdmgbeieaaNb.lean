/- Contracts in the words of numbers at hand: short, sums, products, quotients, equality. -/
import Derived.Test.YtgilhkdmgbeieaaNa
import Derived.Test.YtgilhkdmgbeieaaRh
namespace Go.Proofs.Ytgilhkdmgbeieaa
open Go.RowKit

/-- A slice that holds the number N, of at most k limbs. -/
def NA (w : World) (A : Option Addr) (n c : Nat) (N k : Nat) : Prop := n ≤ k ∧ ∃ l, Sl w w.heap.size .u32 A n c l ∧ Digs 4294967296 l ∧ val 4294967296 l = N
/-- A slice that holds the number N, normal. -/
def NN (w : World) (A : Option Addr) (n c : Nat) (N : Nat) : Prop := ∃ l, Sl w w.heap.size .u32 A n c l ∧ Num 4294967296 l N
theorem NA.below {w w' : World} {A : Option Addr} {n c N k : Nat} (h : NA w A n c N k) (hb : Below w.heap.size w w') : NA w' A n c N k := by
  obtain ⟨hn, l, s, d, v⟩ := h
  exact ⟨hn, l, (s.below hb).mono hb.size, d, v⟩
theorem NN.below {w w' : World} {A : Option Addr} {n c N : Nat} (h : NN w A n c N) (hb : Below w.heap.size w w') : NN w' A n c N := by
  obtain ⟨l, s, d⟩ := h
  exact ⟨l, (s.below hb).mono hb.size, d⟩
theorem NN.na {w : World} {A : Option Addr} {n c N : Nat} (h : NN w A n c N) (hf : Fits N) : NA w A n c N 64 := by
  obtain ⟨l, s, d⟩ := h
  exact ⟨by rw [← s.len]; exact d.fits.2 hf, l, s, d.dig, d.val_⟩
theorem NA.le {w : World} {A : Option Addr} {n c N k k' : Nat} (h : NA w A n c N k) (hk : k ≤ k') : NA w A n c N k' := ⟨Nat.le_trans h.1 hk, h.2⟩
theorem NA.lt {w : World} {A : Option Addr} {n c N k : Nat} (h : NA w A n c N k) : N < 4294967296 ^ k := by
  obtain ⟨hn, l, s, d, v⟩ := h
  have := val_lt d
  rw [s.len, v] at this
  exact Nat.lt_of_lt_of_le this (Nat.pow_le_pow_right (by omega) hn)
theorem NatV.nn {w w' : World} {N : Nat} {e : Ending} (h : NatV w N e w') : ∃ A n c, e = .returned (.slice A n c) ∧ NN w' A n c N ∧ Below w.heap.size w w' := by
  obtain ⟨A, n, c, l, he, s, t, b⟩ := h
  exact ⟨A, n, c, he, ⟨l, s, t⟩, b⟩

section
variable {w : World} {A : Option Addr} {n c N : Nat} {A' : Option Addr} {n' c' N' : Nat}

theorem add_n (h : NA w A n c N 64) (h' : NA w A' n' c' N' 64) (hf : Fits (N + N')) : Calls Try.prog 36 #[.slice A n c, .slice A' n' c'] w fun e w' => ∃ A n c, e = .returned (.slice A n c) ∧ NN w' A n c (N + N') ∧ Below w.heap.size w w' := by
  obtain ⟨hn, l, s, d, rfl⟩ := h
  obtain ⟨hn', l', s', d', rfl⟩ := h'
  exact (ladd_c _ _ _ _ _ _ _ _ w _ s s' (Nat.le_refl _) d d' hn hn' hf).mono fun _ _ h => h.nn
theorem mul_n (h : NA w A n c N 64) (h' : NA w A' n' c' N' 64) (hf : Fits (N * N')) : Calls Try.prog 51 #[.slice A n c, .slice A' n' c'] w fun e w' => ∃ A n c, e = .returned (.slice A n c) ∧ NN w' A n c (N * N') ∧ Below w.heap.size w w' := by
  obtain ⟨hn, l, s, d, rfl⟩ := h
  obtain ⟨hn', l', s', d', rfl⟩ := h'
  exact (lmul_c _ _ _ _ _ _ _ _ w _ s s' (Nat.le_refl _) d d' hn hn' hf).mono fun _ _ h => h.nn
theorem same_n (h : NN w A n c N) (h' : NN w A' n' c' N') (e : N = N') : Calls Try.prog 27 #[.slice A n c, .slice A' n' c'] w fun e w' => e = .returned (.bool true) ∧ Below w.heap.size w w' := by
  subst e
  obtain ⟨l, s, t⟩ := h
  obtain ⟨l', s', t'⟩ := h'
  obtain rfl := t.uniq t' (by omega)
  refine (rsame_c _ _ _ _ _ _ _ _ w _ s s').mono ?_
  rintro e w' ⟨rfl, q, rfl⟩
  exact ⟨by simp, below_drewN (Below.refl _ _) q⟩
theorem sub_n (h : NA w A n c N 64) (h' : NA w A' n' c' N' 64) (hle : N' ≤ N) : Calls Try.prog 52 #[.slice A n c, .slice A' n' c'] w fun e w' => ∃ A n c, e = .returned (.tuple #[.slice A n c, .int .i64 0]) ∧ NN w' A n c (N - N') ∧ Below w.heap.size w w' := by
  obtain ⟨hn, l, s, d, rfl⟩ := h
  obtain ⟨hn', l', s', d', rfl⟩ := h'
  refine (xsub_c _ _ _ _ _ _ _ _ w _ s s' (Nat.le_refl _) d d').mono ?_
  rintro e w1 ⟨A1, n1, c1, l1, e1, he, s1, S1, hb⟩
  rcases S1 with ⟨_, ⟨_, N1, rfl⟩ | ⟨hh, _⟩⟩ | ⟨hh, _⟩
  · exact ⟨_, _, _, he, ⟨_, s1, N1⟩, hb⟩
  · exact absurd hle hh
  · exact absurd ⟨hn, hn'⟩ hh
theorem norm_n (h : NA w A n c N 64) : Calls Try.prog 53 #[.slice A n c] w fun e w' => ∃ A n c, e = .returned (.tuple #[.slice A n c, .int .i64 0]) ∧ NN w' A n c N ∧ Below w.heap.size w w' := by
  obtain ⟨hn, l, s, d, rfl⟩ := h
  refine (xnorm_c _ _ _ _ w _ s (Nat.le_refl _) d).mono ?_
  rintro e w1 ⟨A1, n1, c1, l1, e1, he, s1, S1, hb⟩
  rcases S1 with ⟨_, N1, rfl⟩ | ⟨hh, _⟩
  · exact ⟨_, _, _, he, ⟨_, s1, N1⟩, hb⟩
  · exact absurd hn hh
theorem bits_n (h : NA w A n c N 64) : Calls Try.prog 54 #[.slice A n c] w fun e w' => e = .returned (.tuple #[.int .i64 (bitsN N : Nat), .int .i64 0]) ∧ w = w' := by
  obtain ⟨hn, l, s, d, rfl⟩ := h
  have t := xbits_c _ _ _ _ w _ s d
  rwa [if_pos hn, if_pos hn] at t
theorem compare_n (h : NA w A n c N 64) (h' : NA w A' n' c' N' 64) : Calls Try.prog 56 #[.slice A n c, .slice A' n' c'] w fun e w' => e = .returned (.tuple #[.int .i64 (ordI N N'), .int .i64 0]) ∧ Below w.heap.size w w' := by
  obtain ⟨hn, l, s, d, rfl⟩ := h
  obtain ⟨hn', l', s', d', rfl⟩ := h'
  have t := xcompare_c _ _ _ _ _ _ _ _ w _ s s' d d'
  rw [if_pos ⟨hn, hn'⟩, if_pos ⟨hn, hn'⟩] at t
  exact t.mono fun _ _ ⟨h, q, hq⟩ => ⟨h, hq ▸ below_drewN (Below.refl _ _) q⟩
theorem divide_n (h : NA w A n c N 64) (h' : NA w A' n' c' N' 64) (hp : 0 < N') : Calls Try.prog 55 #[.slice A n c, .slice A' n' c'] w fun e w' => ∃ A n c A' n' c', e = .returned (.tuple #[.slice A n c, .slice A' n' c', .int .i64 0]) ∧ NN w' A n c (N / N') ∧ NN w' A' n' c' (N % N') ∧ Below w.heap.size w w' := by
  obtain ⟨hn, l, s, d, rfl⟩ := h
  obtain ⟨hn', l', s', d', rfl⟩ := h'
  refine (xdivide_c _ _ _ _ _ _ _ _ w _ s s' (Nat.le_refl _) d d').mono ?_
  rintro e w1 ⟨A1, n1, c1, l1, A2, n2, c2, l2, e1, he, s1, s2, S1, hb⟩
  rcases S1 with ⟨_, _, N1, N2, rfl⟩ | ⟨_, hh, _⟩ | ⟨hh, _⟩
  · exact ⟨_, _, _, _, _, _, he, ⟨_, s1, N1⟩, ⟨_, s2, N2⟩, hb⟩
  · omega
  · exact absurd ⟨hn, hn'⟩ hh
theorem divide_z (h : NA w A n c N 64) (h' : NA w A' n' c' 0 64) : Calls Try.prog 55 #[.slice A n c, .slice A' n' c'] w fun e w' => ∃ A n c A' n' c', e = .returned (.tuple #[.slice A n c, .slice A' n' c', .int .i64 7]) ∧ Below w.heap.size w w' := by
  obtain ⟨hn, l, s, d, rfl⟩ := h
  obtain ⟨hn', l', s', d', hz⟩ := h'
  refine (xdivide_c _ _ _ _ _ _ _ _ w _ s s' (Nat.le_refl _) d d').mono ?_
  rintro e w1 ⟨A1, n1, c1, l1, A2, n2, c2, l2, e1, he, s1, s2, S1, hb⟩
  rcases S1 with ⟨_, hh, N1, N2, rfl⟩ | ⟨_, _, _, _, rfl⟩ | ⟨hh, _⟩
  · omega
  · exact ⟨_, _, _, _, _, _, he, hb⟩
  · exact absurd ⟨hn, hn'⟩ hh
theorem gcd_n (h : NA w A n c N 64) (h' : NA w A' n' c' N' 64) : Calls Try.prog 57 #[.slice A n c, .slice A' n' c'] w fun e w' => ∃ A n c, e = .returned (.tuple #[.slice A n c, .int .i64 0]) ∧ NN w' A n c (Nat.gcd N N') ∧ Below w.heap.size w w' := by
  obtain ⟨hn, l, s, d, rfl⟩ := h
  obtain ⟨hn', l', s', d', rfl⟩ := h'
  refine (xgcd_c _ _ _ _ _ _ _ _ w _ s s' (Nat.le_refl _) d d').mono ?_
  rintro e w1 ⟨A1, n1, c1, l1, e1, he, s1, S1, hb⟩
  rcases S1 with ⟨_, N1, rfl⟩ | ⟨hh, _⟩
  · exact ⟨_, _, _, he, ⟨_, s1, N1⟩, hb⟩
  · exact absurd ⟨hn, hn'⟩ hh
end

set_option maxHeartbeats 400000 in
theorem lshort_c (A : Option Addr) (n c k : Nat) (l : List Nat) (w : World) (h : Sl w w.heap.size .u32 A n c l) (hd : Digs 4294967296 l) (hk : k ≤ 1000) :
    Calls Try.prog 50 #[.slice A n c, .int .i64 k] w fun e w' => ∃ A' n' c' N, e = .returned (.slice A' n' c') ∧ NA w' A' n' c' N k ∧ Below w.heap.size w w' := by
  obtain ⟨m, HM, hm, hmk⟩ : ∃ m : Nat, Hid (min n k = m) ∧ m ≤ n ∧ m ≤ k := ⟨_, rfl, by omega, by omega⟩
  have hn := h.n63
  have hcap := h.cap
  go_enter Try.func50, Try.ntmps50
  go_wp2_with (first
    | (with_reducible refine wl_min _ rfl _ _ _ rfl _ _ _ _ (m : Nat) rfl rfl (by have := HM.out; omega) ?_)
    | (at_builtin; refine wl_append _ rfl (.tmp 5) (.tmp 11) _ rfl w.heap.size 58 .u32 4 Try.underlying23 info_u32 (by omega) (some ⟨w.heap.size, 0, none⟩) 0 0 [] (by rfl) (Own.empty _ _ _) A m c (l.take m) (by rfl) w.heap.size ((h.take hm).below ((Below.refl _ _).alloc (Nat.le_refl _) _)) (by omega) (by simp) ?_; intro A3 c3 w3 o3 hg3 hA3))
  go_ret
  rw [Nat.zero_add] at o3
  refine ⟨_, _, _, _, rfl, ⟨by omega, _, o3.sl, (Digs.nil _).append (hd.take m), rfl⟩, ?_⟩
  exact ((Below.refl w.heap.size w).alloc (Nat.le_refl _) (.cells #[] 58)).grown hg3 (by simp) (fun k hk => by cases hk; exact Nat.le_refl _)
end Go.Proofs.Ytgilhkdmgbeieaa
