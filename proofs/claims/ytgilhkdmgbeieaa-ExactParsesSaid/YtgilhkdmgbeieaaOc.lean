/- The contract of exact's Small. -/
import Derived.Test.YtgilhkdmgbeieaaOa
namespace Go.Proofs.Ytgilhkdmgbeieaa
open Go.RowKit

/-- What Small returns: the number and the error. -/
def smallV (n V : Nat) : Nat := if n ≤ 64 ∧ V < 18446744073709551616 then V else 0
def smallE (n V : Nat) : Int := if n ≤ 64 then (if V < 18446744073709551616 then 0 else 8) else 4

set_option maxHeartbeats 800000 in
theorem xsmall_c (A : Option Addr) (n c : Nat) (l : List Nat) (w : World) (B : Nat) (h : Sl w B .u32 A n c l) (hd : Digs 4294967296 l) :
    Calls Try.prog 26 #[.slice A n c] w fun e w' => e = .returned (.tuple #[.int .u64 (smallV n (val 4294967296 l)), .int .i64 (smallE n (val 4294967296 l))]) ∧ w = w' := by
  have hmax := h.max
  have hcap := h.cap
  obtain ⟨V, hV⟩ : ∃ V, val 4294967296 l = V := ⟨_, rfl⟩
  have HV := hide hV
  rw [hV]
  clear hV
  have hc := check1_c A n c w (by omega)
  go_enter Try.func26, Try.ntmps26
  go_wp2_with fail
  refine hc.mono ?_
  rintro e w' ⟨rfl, rfl⟩
  by_cases h64 : n ≤ 64
  · rw [if_pos h64]
    go_wp2_with fail
    refine (trim_n _ _ _ _ _ _ h hd).mono ?_
    rintro e w' ⟨m, hm, rfl, ta, rfl⟩
    rw [HV.out] at ta
    have hs := h.take hm
    have hml := hs.len
    by_cases hm2 : m ≤ 2
    · have hV : V < 18446744073709551616 := by
        have h1 := ta.lt
        have h2 : (4294967296 : Nat) ^ (l.take m).length ≤ 4294967296 ^ 2 := Nat.pow_le_pow_right (by omega) (by omega)
        omega
      go_wp2
      go_loop [5, 19] (fun nv iv => ∃ i : Nat, i ≤ m ∧ iv = .int .i64 i ∧ nv = .int .u64 (val 4294967296 ((l.take m).take i) : Nat)) (fun _ iv => m - (intOf iv).toNat)
      case atStart => exact ⟨0, Nat.zero_le _, rfl, by simp [val]⟩
      case round =>
        obtain ⟨i, hi, rfl, rfl⟩ := hrel
        by_cases hlt : i < m
        · obtain ⟨b1, o1, x, rfl, hb1, hx, hxm, hcx⟩ := hs.cell hlt
          have hx1 := ta.dig x hxm
          have hst := val_take_succ 4294967296 (l.take m) i
          rw [hx] at hst
          have HX := hide hx
          clear hx
          obtain ⟨y, hy⟩ : ∃ y, val 4294967296 ((l.take m).take i) = y := ⟨_, rfl⟩
          rw [hy] at hst ⊢
          have hy1 : i = 0 → y = 0 := fun h0 => by subst h0; rw [← hy]; simp [val]
          have hy2 : y < 4294967296 ^ i := by
            have := val_lt (ta.dig.take i)
            rwa [hy, List.length_take, Nat.min_eq_left (by omega)] at this
          clear hy
          rcases (show i = 0 ∨ i = 1 by omega) with rfl | rfl
          · obtain rfl := hy1 rfl
            rw [Nat.add_zero] at hcx
            go_wp2
            refine ⟨⟨1, by omega, rfl, congrArg (Value.int .u64) ?_⟩, by simp [intOf]; omega⟩
            have h1 := u64_or_nat 0 x (by omega) (by omega)
            rw [Nat.zero_or] at h1
            rw [hst]
            simpa using h1
          · go_wp2
            refine ⟨⟨2, by omega, rfl, congrArg (Value.int .u64) ?_⟩, by simp [intOf]; omega⟩
            have h1 := u64_or_nat y (x * 4294967296) (by omega) (by omega)
            rw [Nat.or_comm, nat_join 32 _ _ (by omega) (by omega)] at h1
            rw [hst, show y + 4294967296 ^ 1 * x = x * 4294967296 + y by omega]
            exact h1
        · obtain rfl : i = m := by omega
          rw [List.take_of_length_le (Nat.le_of_eq hml), ta.val_]
          go_wp2
          go_ret2
          exact ⟨by simp [smallV, smallE, h64, hV], rfl⟩
    · have hV : ¬ V < 18446744073709551616 := by
        intro hV
        have := (ta.length_le (by omega) 2).2 (by omega)
        omega
      go_wp2
      go_ret2
      exact ⟨by simp [smallV, smallE, h64, hV], rfl⟩
  · rw [if_neg h64]
    go_wp2
    go_ret2
    exact ⟨by simp [smallV, smallE, h64], rfl⟩
end Go.Proofs.Ytgilhkdmgbeieaa
