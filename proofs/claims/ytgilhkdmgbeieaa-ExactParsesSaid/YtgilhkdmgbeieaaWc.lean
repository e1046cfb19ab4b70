/- Contracts of exact's bit, double, size. -/
import Derived.Test.YtgilhkdmgbeieaaWa
namespace Go.Proofs.Ytgilhkdmgbeieaa
open Go.RowKit

theorem ret_int {k : IntKind} {a b : Int} (h : a = b) : Ending.returned (.int k a) = .returned (.int k b) := by rw [h]

set_option maxHeartbeats 400000 in
theorem bit_c (A : Option Addr) (n c : Nat) (l : List Nat) (w : World) (B : Nat) (i : Nat) (h : Sl w B .u32 A n c l) (hd : Digs 4294967296 l) (hi : i / 32 < n) (hn : n ≤ 1099511627776) :
    Calls Try.prog 124 #[.slice A n c, .int .i64 i] w fun e w' => e = .returned (.int .u32 (val 4294967296 l / 2 ^ i % 2 : Nat)) ∧ w = w' := by
  obtain ⟨b, o, x, rfl, hb, hx, hm, hc⟩ := h.cell hi
  have hx1 := hd x hm
  have HX := hide hx
  clear hx
  have h1 : i % 32 < 32 := Nat.mod_lt _ (by omega)
  go_enter Try.func124, Try.ntmps124
  go_wp2
  go_ret
  refine ⟨ret_int ?_, rfl⟩
  rw [val_bit l i hd, HX.out]
  have e : ((x : Int) / 2 ^ (i % 32)) = ((x / 2 ^ (i % 32) : Nat) : Int) := by push_cast; rfl
  show bits .and .u32 ((x : Int) / 2 ^ (i % 32)) 1 = _
  rw [e, u32_and1 _ (Nat.lt_of_le_of_lt (Nat.div_le_self _ _) hx1)]

set_option maxHeartbeats 400000 in
theorem double_c (g n c : Nat) (l : List Nat) (w : World) (base : Nat) (low : Nat) (h : Own w base 58 .u32 (some ⟨g, 0, none⟩) n c l) (hd : Digs 4294967296 l) (hl : low < 2) (hn : n ≤ 1099511627776) :
    Calls Try.prog 123 #[.slice (some ⟨g, 0, none⟩) n c, .int .u32 low] w fun e w' => e = .returned (.tuple #[]) ∧
      ∃ lo, Own w' base 58 .u32 (some ⟨g, 0, none⟩) n c lo ∧ Digs 4294967296 lo ∧ (∃ out, val 4294967296 lo + 4294967296 ^ n * out = 2 * val 4294967296 l + low) ∧ w.grownBy w' (some g) := by
  go_enter Try.func123, Try.ntmps123
  go_wp2
  go_loopw [1, 8] (fun lv iv wr => ∃ (i low' : Nat) (lo : List Nat), i ≤ n ∧ iv = .int .i64 i ∧ lv = .int .u32 low' ∧ low' < 2 ∧
      Own wr base 58 .u32 (some ⟨g, 0, none⟩) n c lo ∧ Digs 4294967296 lo ∧ lo.drop i = l.drop i ∧ val 4294967296 (lo.take i) + 4294967296 ^ i * low' = 2 * val 4294967296 (l.take i) + low ∧ w.grownBy wr (some g))
    (fun _ iv _ => n - (intOf iv).toNat)
  case atStart => exact ⟨0, low, l, Nat.zero_le _, rfl, rfl, hl, h, hd, rfl, by simp [val], World.grownBy.refl _ _⟩
  case round =>
    obtain ⟨i, low', lo, hi, rfl, rfl, hl', ho, hdo, hdr, hI, hgr⟩ := hrel
    by_cases hlt : i < n
    · obtain ⟨x, hx, hxm, hcx⟩ := ho.cell hlt
      have hx1 := hdo x hxm
      have hfz := ho.frozen i
      have HX := hide hx
      have HD := hide hdr
      have HI := hide hI
      clear hx hdr hI
      go_wp2
      go_roundw
      case rel =>
        have hx2 : l.getD i 0 = x := by rw [← getD_of_drop HD.out]; exact HX.out
        exact ⟨i + 1, x / 2147483648, _, by omega, by go_num, by go_num, by omega, ho.store i (x * 2 % 4294967296 + low') (by rw [u32_dbl _ _ hl']), hdo.set _ _ (by omega), by
          rw [drop_set_succ]; exact drop_succ_of HD.out, dbl_step rfl HI.out (by rw [ho.len]; omega) hx2, hgr.trans ⟨rfl, rfl, rfl, by simp [World.setCell], fun k _ hk => Below.heap_setCell _ _ _ _ (fun e => hk (by rw [e]))⟩⟩
      case measure => simp [intOf] <;> omega
    · obtain rfl : i = n := by omega
      have HD := hide hdr
      have HI := hide hI
      clear hdr hI
      go_wp2
      go_end0
      have hI := HI.out
      rw [show lo.take i = lo from List.take_of_length_le (Nat.le_of_eq ho.len), show l.take i = l from List.take_of_length_le (Nat.le_of_eq h.len)] at hI
      exact ⟨rfl, lo, ho, hdo, ⟨_, hI⟩, hgr⟩

set_option maxHeartbeats 400000 in
theorem size_c (A : Option Addr) (n c : Nat) (l : List Nat) (w : World) (B : Nat) (h : Sl w B .u32 A n c l) (hd : Digs 4294967296 l) (hn : n ≤ 1099511627776) :
    Calls Try.prog 103 #[.slice A n c] w fun e w' => e = .returned (.int .i64 (bitsN (val 4294967296 l) : Nat)) ∧ w = w' := by
  obtain ⟨X, hX⟩ : ∃ X, val 4294967296 l = X := ⟨_, rfl⟩
  have HX := hide hX
  rw [hX]
  clear hX
  have hcap := h.cap
  go_enter Try.func103, Try.ntmps103
  go_wp2_with fail
  refine (trim_n _ _ _ _ _ _ h hd).mono ?_
  rintro e w' ⟨m, hm, rfl, ta, rfl⟩
  have sa := h.take hm
  rw [HX.out] at ta
  obtain ⟨l', hl⟩ : ∃ l', l.take m = l' := ⟨_, rfl⟩
  rw [hl] at ta sa
  clear hl
  by_cases h0 : m = 0
  · subst h0
    go_wp2
    go_ret
    have := (ta.zero_iff (by omega)).1 sa.len
    exact ⟨ret_int (by rw [this]; rfl), rfl⟩
  · obtain ⟨m, rfl⟩ : ∃ j, m = j + 1 := ⟨m - 1, by omega⟩
    obtain ⟨b, o, x, rfl, hb, hx, hxm, hcx⟩ := sa.cell (i := m) (by omega)
    have hx1 := ta.dig x hxm
    have HB := hide (bitsN_val ta sa.len)
    have HXX := hide hx
    clear hx
    go_wp2
    go_loop [3, 4] (fun nv xv => ∃ (k y : Nat), xv = .int .u32 y ∧ nv = .int .i64 k ∧ y < 4294967296 ∧ k + bitsN y = bitsN X) (fun _ xv => (intOf xv).toNat)
    case atStart => exact ⟨32 * m, x, rfl, by go_num, hx1, by rw [HB.out, HXX.out]⟩
    case round =>
      obtain ⟨k, y, rfl, rfl, hy, hI⟩ := hrel
      have HI := hide hI
      have hb32 := (bitsN_le y 32).2 hy
      have hbX := (bitsN_le X (32 * (m + 1))).2 (by have := ta.lt; rw [sa.len] at this; rwa [Nat.pow_mul])
      have hk : k ≤ 32 * (m + 1) := by omega
      clear hI hbX hb32
      by_cases hy0 : 0 < y
      · have hh := bitsN_half hy0
        have HH := hide hh
        clear hh
        go_wp2
        go_round
        case rel => exact ⟨k + 1, y / 2, by go_num, by go_num, by omega, by have := HI.out; have := HH.out; omega⟩
        case measure => simp [intOf] <;> omega
      · obtain rfl : y = 0 := by omega
        go_wp2
        go_ret
        exact ⟨ret_int (by have := HI.out; rw [bitsN_zero] at this; exact congrArg _ this), rfl⟩
end Go.Proofs.Ytgilhkdmgbeieaa
