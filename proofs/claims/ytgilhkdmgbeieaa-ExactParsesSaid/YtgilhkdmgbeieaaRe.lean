/- Contracts of the reference's gcd, fits, nat. -/
import Derived.Test.YtgilhkdmgbeieaaRd
import Derived.Test.YtgilhkdmgbeieaaWh
namespace Go.Proofs.Ytgilhkdmgbeieaa
open Go.RowKit

/-- A number of the reference, wherever it lies. -/
def DigW (w : World) (N : Nat) (e : Ending) (w' : World) : Prop :=
  ∃ A n c l, e = .returned (.slice A n c) ∧ Sl w' w'.heap.size .i64 A n c l ∧ Num 256 l N ∧ Below w.heap.size w w'

theorem Num.zero256 {l : List Nat} {N : Nat} (h : Num 256 l N) : l.length = 0 ↔ N = 0 := h.zero_iff (by omega)

set_option maxHeartbeats 800000 in
theorem rgcd_c (A : Option Addr) (na ca : Nat) (la : List Nat) (A' : Option Addr) (nb cb : Nat) (lb : List Nat) (X Y : Nat) (w : World) (B : Nat) (ha : Sl w B .i64 A na ca la) (hb : Sl w B .i64 A' nb cb lb)
    (hB : B ≤ w.heap.size) (hda : Num 256 la X) (hdb : Num 256 lb Y) (hna : na ≤ 1073741823) (hnb : nb ≤ 1073741823) :
    Calls Try.prog 119 #[.slice A na ca, .slice A' nb cb] w (DigW w (Nat.gcd X Y)) := by
  go_enter Try.func119, Try.ntmps119
  go_wp2
  go_loopg [0, 1] Y (fun Yk va vb wr => ∃ (Xk : Nat) (A : Option Addr) (n c : Nat) (l : List Nat) (A' : Option Addr) (n' c' : Nat) (l' : List Nat), va = .slice A n c ∧ vb = .slice A' n' c' ∧
      Sl wr wr.heap.size .i64 A n c l ∧ Num 256 l Xk ∧ Sl wr wr.heap.size .i64 A' n' c' l' ∧ Num 256 l' Yk ∧ n ≤ 1073741823 ∧ n' ≤ 1073741823 ∧ Nat.gcd Xk Yk = Nat.gcd X Y ∧ Below w.heap.size w wr)
  case atStart => exact ⟨X, _, _, _, _, _, _, _, _, rfl, rfl, ha.mono hB, hda, hb.mono hB, hdb, hna, hnb, rfl, Below.refl _ _⟩
  case round =>
    obtain ⟨Xk, A, n, c, l, A', n', c', l', rfl, rfl, s1, h1, s2, h2, hn, hn', hg, hbw⟩ := hrel
    obtain ⟨Yk, rfl⟩ : ∃ Yk, Yk = gk := ⟨_, rfl⟩
    have HG := hide hg
    clear hg
    by_cases h0 : 0 < n'
    · have hY : 0 < Yk := by
        have := h2.zero256
        rw [s2.len] at this
        omega
      have hdv := rdivide_c _ _ _ _ _ _ _ _ Xk Yk wr _ s1 s2 (Nat.le_refl _) h1 h2 hY hn
      go_wp2_with fail
      refine hdv.mono ?_
      rintro e w2 ⟨Aq, nq, cq, lq, Ar, nr, cr, lr, rfl, sq, sr, hq, hr, hb2, hfq⟩
      clear hdv sq hq hfq
      have hlr : nr ≤ n' := by
        rw [← sr.len, ← s2.len]
        exact num_len hr h2 (Nat.mod_lt _ hY)
      have s2' := (s2.below hb2).mono hb2.size
      have hbw2 := hbw.trans (hb2.mono hbw.size)
      have hlt := Nat.mod_lt Xk hY
      have hg2 : Nat.gcd Yk (Xk % Yk) = Nat.gcd X Y := by rw [← HG.out, Nat.gcd_comm Xk Yk, Nat.gcd_rec Yk Xk, Nat.gcd_comm]
      have HG2 := hide hg2
      clear s1 s2 hb2 hbw hg2 ha hb
      obtain ⟨Z, hZ⟩ : ∃ Z, Xk % Yk = Z := ⟨_, rfl⟩
      rw [hZ] at hr hlt HG2
      clear hZ
      go_wp2
      go_roundg Z
      case measure => omega
      case rel => exact ⟨Yk, _, _, _, _, _, _, _, _, rfl, rfl, s2', h2, sr, hr, hn', by omega, HG2.out, hbw2⟩
    · obtain rfl : n' = 0 := by omega
      have h00 := h2.zero256.1 s2.len
      have hg := HG.out
      rw [h00, Nat.gcd_zero_right] at hg
      rw [hg] at h1
      go_wp2
      go_ret
      exact ⟨_, _, _, _, rfl, s1, h1, hbw⟩

theorem pow_four (k : Nat) : (256 : Nat) ^ (4 * k) = 4294967296 ^ k := by
  rw [Nat.pow_mul]
theorem Num.fits8 {l : List Nat} {N : Nat} (h : Num 256 l N) : l.length ≤ 256 ↔ Fits N := by
  rw [h.length_le (by omega) (4 * 64), pow_four]; rfl

theorem rfits_c (A : Option Addr) (n c : Nat) (l : List Nat) (N : Nat) (w : World) (B : Nat) (h : Sl w B .i64 A n c l) (hN : Num 256 l N) :
    Calls Try.prog 116 #[.slice A n c] w fun e w' => w = w' ∧ ((Fits N ∧ n ≤ 256 ∧ e = .returned (.bool true)) ∨ (¬ Fits N ∧ e = .returned (.bool false))) := by
  have hf := hN.fits8
  rw [h.len] at hf
  rcases Nat.lt_or_ge 256 n with hlt | hge
  · have h1 : ¬ Fits N := fun h => by have := hf.2 h; omega
    go_enter Try.func116, Try.ntmps116
    go_wp2
    go_ret
    exact ⟨rfl, .inr ⟨h1, by simp; omega⟩⟩
  · have h1 : Fits N := hf.1 hge
    go_enter Try.func116, Try.ntmps116
    go_wp2
    go_ret
    exact ⟨rfl, .inl ⟨h1, hge, by simp; omega⟩⟩

theorem drop_take_step (b : Nat) (l : List Nat) (i j : Nat) (hj : j < 4) : val b ((l.drop (i + j)).take (4 - j)) = l.getD (i + j) 0 + b * val b ((l.drop (i + (j + 1))).take (4 - (j + 1))) := by
  obtain ⟨m, hm⟩ : ∃ m, 4 - j = m + 1 := ⟨3 - j, by omega⟩
  rw [hm, show 4 - (j + 1) = m by omega]
  rcases Nat.lt_or_ge (i + j) l.length with h | h
  · rw [List.drop_eq_getElem_cons h, List.take_succ_cons]
    simp [val, h, Nat.add_assoc]
  · rw [List.drop_of_length_le h, List.drop_of_length_le (by omega)]
    simp [val, h]

structure NatI (la lo : List Nat) (k : Nat) : Prop where
  len : lo.length = k
  dig : Digs 4294967296 lo
  at_ : 4 * k < la.length + 4
  eq : val 4294967296 lo = val 256 (la.take (4 * k))
theorem NatI.start (la : List Nat) : NatI la [] 0 := ⟨rfl, Digs.nil _, by omega, by simp [val]⟩
theorem NatI.step {la lo : List Nat} {k d : Nat} (h : NatI la lo k) (hk : 4 * k < la.length) (hd : d < 4294967296) (he : val 256 ((la.drop (4 * k)).take 4) = d) : NatI la (lo ++ [d]) (k + 1) := by
  obtain ⟨h1, h2, h3, h4⟩ := h
  refine ⟨by simp [h1], h2.append (Digs.one hd), by omega, ?_⟩
  rw [show 4 * (k + 1) = 4 * k + 4 by omega, List.take_add, val_append, val_append, h4, h1, he, List.length_take, Nat.min_eq_left (by omega), pow_four]
  simp [val]
theorem NatI.done {la lo : List Nat} {k N : Nat} (h : NatI la lo k) (hN : Num 256 la N) (hk : la.length ≤ 4 * k) : Num 4294967296 lo N := by
  obtain ⟨h1, h2, h3, h4⟩ := h
  rw [List.take_of_length_le hk, hN.val_] at h4
  refine ⟨h2, h4, fun i hi he => ?_⟩
  have hl : la.length = (la.length - 1) + 1 := by omega
  have hp := hN.pos hl (by omega)
  have hp2 : (256 : Nat) ^ (4 * i) ≤ 256 ^ (la.length - 1) := Nat.pow_le_pow_right (by omega) (by omega)
  rw [pow_four] at hp2
  have e1 := val_take_succ 4294967296 lo i
  rw [List.take_of_length_le (Nat.le_of_eq hi), he, Nat.mul_zero, Nat.add_zero] at e1
  have e2 := val_lt (h2.take i)
  rw [List.length_take, Nat.min_eq_left (by omega)] at e2
  omega
end Go.Proofs.Ytgilhkdmgbeieaa
