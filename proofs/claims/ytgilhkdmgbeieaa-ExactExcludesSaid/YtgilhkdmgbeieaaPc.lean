/- The contract of exact's Tail where its numbers are in range. -/
import Derived.Test.YtgilhkdmgbeieaaPb
import Derived.Test.YtgilhkdmgbeieaaLd
import Derived.Test.YtgilhkdmgbeieaaMathF
namespace Go.Proofs.Ytgilhkdmgbeieaa
open Go.RowKit

theorem Wn_le_Cn {t b s m : Nat} (hb : b ≤ t) : Wn t b s m ≤ Cn t s := by
  obtain ⟨R, rfl⟩ : ∃ R, t = b + R := ⟨t - b, by omega⟩
  rw [← Wn_full b (b + 1 + m) (by omega) R s]
  exact Wn_mono _ _ _ (by omega)
theorem errV_ok {f g : FA} (h1 : f.n ≤ 64) (h2 : f.n' ≤ 64) (h3 : 0 < val 4294967296 f.l') (k1 : g.n ≤ 64) (k2 : g.n' ≤ 64) (k3 : 0 < val 4294967296 g.l') : errV [f, g] = 0 := by
  unfold errV
  rw [if_neg (by simp [FA.long]; omega), if_neg (by simp [FA.zero]; omega)]

/-- A fraction in memory: its value, reduced. -/
def TailV (w : World) (W D : Nat) (e : Ending) (w' : World) : Prop :=
  ∃ f : FA, e = .returned (.tuple #[.agg #[.slice f.A f.n f.c, .slice f.A' f.n' f.c'], .int .i64 0]) ∧ f.Rd w' w'.heap.size ∧ Num 4294967296 f.l (W / Nat.gcd W D) ∧ Num 4294967296 f.l' (D / Nat.gcd W D) ∧ f.n ≤ 64 ∧ f.n' ≤ 64 ∧ Below w.heap.size w w'

theorem tail_ok (n b k : Nat) (s : Int) (w : World) (hn : n ≤ 512) (hb : b ≤ n) (hk : k ≤ n) (h1 : -9223372036854775808 ≤ s) (h2 : s ≤ 9223372036854775807) :
    Calls Try.prog 17 #[.int .i64 n, .int .i64 b, .int .i64 k, .int .i64 s] w (TailV w (Wn n b k (s + 1).toNat) (Cn n k)) :=
  (tail_c n b k s w h1 h2).mono fun e w' ⟨A, m, c, l, A', m', c', l', err, he, s1, s2, S, hbw⟩ => by
    have hfd : Fits (Cn n k) := Cn_fits hn
    have hfw : Fits (Wn n b k (s + 1).toNat) := hfd.le (Wn_le_Cn hb)
    rcases S with ⟨_, _, S⟩ | ⟨h, _⟩
    · rcases S with ⟨k1, k2, k3, k4, rfl⟩ | ⟨h, _⟩
      · refine ⟨⟨A, m, c, l, A', m', c', l'⟩, he, ⟨s1, s2, k3.dig, k4.dig⟩, k3, k4, ?_, ?_, hbw⟩
        · show m ≤ 64
          rw [← s1.len]; exact k3.fits.2 k1
        · show m' ≤ 64
          rw [← s2.len]; exact k4.fits.2 k2
      · exact absurd ⟨hfw.le (Nat.div_le_self _ _), hfd.le (Nat.div_le_self _ _)⟩ h
    · exact absurd ⟨saneB_true.2 (by omega), saneB_true.2 (by omega)⟩ h
theorem gcd_div_pos {W D : Nat} (h : 0 < D) : 0 < D / Nat.gcd W D :=
  Nat.div_pos (Nat.le_of_dvd h (Nat.gcd_dvd_right _ _)) (Nat.gcd_pos_of_pos_right _ h)
end Go.Proofs.Ytgilhkdmgbeieaa
