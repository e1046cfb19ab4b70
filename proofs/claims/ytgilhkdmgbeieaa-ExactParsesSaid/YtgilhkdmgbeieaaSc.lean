/- Contracts of the reference's functions with natural numbers: result, Norm, Compare, Bits, Small, Add, Sub, Mul, Divide, Gcd. -/
import Derived.Test.YtgilhkdmgbeieaaSb
import Derived.Test.YtgilhkdmgbeieaaRe
import Derived.Test.YtgilhkdmgbeieaaOc
namespace Go.Proofs.Ytgilhkdmgbeieaa
open Go.RowKit

theorem bitsN_val8 {l : List Nat} {n i : Nat} (h : Num 256 l n) (hi : l.length = i + 1) : bitsN n = 8 * i + bitsN (l.getD i 0) := by
  have e := val_take_succ 256 l i
  rw [List.take_of_length_le (by omega), h.val_] at e
  rw [e]
  refine bitsN_add (by rw [Nat.pow_mul]) ?_ (Nat.pos_of_ne_zero (h.top i hi))
  have h1 := val_lt (h.dig.take i)
  rwa [List.length_take, Nat.min_eq_left (by omega)] at h1

set_option maxHeartbeats 400000 in
theorem rresult_c (A : Option Addr) (n c : Nat) (l : List Nat) (N : Nat) (w : World) (h : Sl w w.heap.size .i64 A n c l) (hN : Num 256 l N) :
    Calls Try.prog 114 #[.slice A n c] w (NumV w (SFit N)) := by
  go_enter Try.func114, Try.ntmps114
  go_wp2_with fail
  refine (rfits_c _ _ _ _ _ w _ h hN).mono ?_
  rintro e w' ⟨rfl, ⟨hF, hn, rfl⟩ | ⟨hF, rfl⟩⟩
  · go_wp2_with fail
    refine (rnat_c _ _ _ _ _ w _ h (Nat.le_refl _) hN (by omega)).mono ?_
    rintro e w2 ⟨A2, n2, c2, l2, rfl, s2, N2, hb2, _⟩
    go_wp2
    go_ret2
    exact ⟨_, _, _, _, _, rfl, s2, .inl ⟨hF, N2, rfl⟩, hb2⟩
  · go_wp2
    go_ret2
    exact ⟨_, _, _, _, _, rfl, Sl.nil _ _ _ _ _ (by omega), .inr ⟨hF, rfl, rfl⟩, Below.refl _ _⟩

section
variable (A : Option Addr) (n c : Nat) (l : List Nat) (A' : Option Addr) (n' c' : Nat) (l' : List Nat) (w : World)

set_option maxHeartbeats 400000 in
theorem rnorm_c (h : Sl w w.heap.size .u32 A n c l) (hd : Digs 4294967296 l) :
    Calls Try.prog 58 #[.slice A n c] w (NumV w (SLong (n ≤ 64) (SNum (val 4294967296 l)))) := by
  have h1 := rcheck1_c A n c w h.n63
  by_cases hk : n ≤ 64
  · rw [if_pos hk] at h1
    go_enter Try.func58, Try.ntmps58
    go_wp2_with fail
    refine h1.mono ?_
    rintro e w' ⟨rfl, rfl⟩
    clear h1
    go_wp2_with fail
    refine (rdigits_c _ _ _ _ w _ h (Nat.le_refl _) hd (by omega)).mono ?_
    rintro e w1 ⟨A1, n1, c1, l1, rfl, s1, N1, hb, _⟩
    have hl := N1.l256 (h.fits hd hk) s1.len
    go_wp2_with fail
    refine (rnat_c _ _ _ _ _ w1 _ s1 (Nat.le_refl _) N1 (by omega)).mono ?_
    rintro e w2 ⟨A2, n2, c2, l2, rfl, s2, N2, hb2, _⟩
    go_wp2
    go_ret2
    exact ⟨_, _, _, _, _, rfl, s2, .inl ⟨hk, N2, rfl⟩, hb.trans (hb2.mono hb.size)⟩
  · rw [if_neg hk] at h1
    go_enter Try.func58, Try.ntmps58
    go_wp2_with fail
    refine h1.mono ?_
    rintro e w' ⟨rfl, rfl⟩
    clear h1
    go_wp2
    go_ret2
    exact ⟨_, _, _, _, _, rfl, Sl.nil _ _ _ _ _ (by omega), .inr ⟨hk, rfl, rfl⟩, Below.refl _ _⟩

set_option maxHeartbeats 400000 in
theorem rbits1_c (N : Nat) (h : Sl w w.heap.size .i64 A n c l) (hN : Num 256 l N) (hn : n ≤ 1099511627776) :
    Calls Try.prog 106 #[.slice A n c] w fun e w' => e = .returned (.int .i64 (bitsN N : Nat)) ∧ w = w' := by
  have hcap := h.cap
  by_cases h0 : n = 0
  · subst h0
    go_enter Try.func106, Try.ntmps106
    go_wp2
    go_ret
    have := (hN.zero_iff (by omega)).1 h.len
    exact ⟨ret_int (by rw [this]; rfl), rfl⟩
  · obtain ⟨m, rfl⟩ : ∃ j, n = j + 1 := ⟨n - 1, by omega⟩
    obtain ⟨b, o, x, rfl, hb, hx, hxm, hcx⟩ := h.cell (i := m) (by omega)
    have hx1 := hN.dig x hxm
    have HB := hide (bitsN_val8 hN h.len)
    have HXX := hide hx
    clear hx
    go_enter Try.func106, Try.ntmps106
    go_wp2
    go_loopw [3, 4] (fun nv xv wr => ∃ (k y : Nat), xv = .int .i64 y ∧ nv = .int .i64 k ∧ y < 256 ∧ k + bitsN y = bitsN N ∧ w = wr) (fun _ xv _ => (intOf xv).toNat)
    case atStart => exact ⟨8 * m, x, rfl, by go_num, hx1, by rw [HB.out, HXX.out], (by first | rfl | trivial)⟩
    case round =>
      obtain ⟨k, y, rfl, rfl, hy, hI, rfl⟩ := hrel
      have HI := hide hI
      have hb8 := (bitsN_le y 8).2 hy
      have hbX := (bitsN_le N (8 * (m + 1))).2 (by have := hN.lt; rw [h.len] at this; rwa [Nat.pow_mul])
      have hk : k ≤ 8 * (m + 1) := by omega
      clear hI hbX hb8
      by_cases hy0 : 0 < y
      · have hh := bitsN_half hy0
        have HH := hide hh
        clear hh
        go_wp2
        go_roundw
        case rel => exact ⟨k + 1, y / 2, by go_num, by go_num, by omega, by have := HI.out; have := HH.out; omega, (by first | rfl | trivial)⟩
        case measure => simp [intOf] <;> omega
      · obtain rfl : y = 0 := by omega
        go_wp2
        go_ret
        exact ⟨ret_int (by have := HI.out; rw [bitsN_zero] at this; exact congrArg _ this), rfl⟩

set_option maxHeartbeats 400000 in
theorem rbits_c (h : Sl w w.heap.size .u32 A n c l) (hd : Digs 4294967296 l) :
    Calls Try.prog 63 #[.slice A n c] w fun e w' => e = .returned (.tuple #[.int .i64 (if n ≤ 64 then bitsN (val 4294967296 l) else 0 : Nat), .int .i64 (if n ≤ 64 then 0 else 4)]) ∧ Below w.heap.size w w' := by
  have h1 := rcheck1_c A n c w h.n63
  by_cases hk : n ≤ 64
  · rw [if_pos hk] at h1 ⊢
    rw [if_pos hk]
    go_enter Try.func63, Try.ntmps63
    go_wp2_with fail
    refine h1.mono ?_
    rintro e w' ⟨rfl, rfl⟩
    clear h1
    go_wp2_with fail
    refine (rdigits_c _ _ _ _ w _ h (Nat.le_refl _) hd (by omega)).mono ?_
    rintro e w1 ⟨A1, n1, c1, l1, rfl, s1, N1, hb, _⟩
    have hl := N1.l256 (h.fits hd hk) s1.len
    go_wp2_with fail
    refine (rbits1_c _ _ _ _ w1 _ s1 N1 (by omega)).mono ?_
    rintro e w2 ⟨rfl, rfl⟩
    go_wp2
    go_ret2
    exact ⟨rfl, hb⟩
  · rw [if_neg hk] at h1 ⊢
    rw [if_neg hk]
    go_enter Try.func63, Try.ntmps63
    go_wp2_with fail
    refine h1.mono ?_
    rintro e w' ⟨rfl, rfl⟩
    clear h1
    go_wp2
    go_ret2
    exact ⟨rfl, Below.refl _ _⟩

theorem val_drop_ge {l : List Nat} {N k : Nat} (hN : Num 256 l N) (i : Nat) (h : N < 256 ^ k) : val 256 (l.drop i) < 256 ^ k := by
  have := val_split 256 l i
  rw [hN.val_] at this
  have h2 : val 256 (l.drop i) ≤ 256 ^ i * val 256 (l.drop i) := Nat.le_mul_of_pos_left _ (Nat.pow_pos (by omega))
  omega
theorem val_drop_at (l : List Nat) (i : Nat) (h : i < l.length) : val 256 (l.drop i) = l.getD i 0 + 256 * val 256 (l.drop (i + 1)) := by
  rw [List.drop_eq_getElem_cons h]
  simp [val, h]

set_option maxHeartbeats 800000 in
theorem rsmall_c (h : Sl w w.heap.size .u32 A n c l) (hd : Digs 4294967296 l) :
    Calls Try.prog 61 #[.slice A n c] w fun e w' => e = .returned (.tuple #[.int .u64 (smallV n (val 4294967296 l)), .int .i64 (smallE n (val 4294967296 l))]) ∧ Below w.heap.size w w' := by
  have h1 := rcheck1_c A n c w h.n63
  obtain ⟨N, hN⟩ : ∃ N, val 4294967296 l = N := ⟨_, rfl⟩
  by_cases hk : n ≤ 64
  · rw [if_pos hk] at h1
    have hf := h.fits hd hk
    rw [hN] at hf ⊢
    obtain ⟨sv, hsv⟩ : ∃ sv, smallV n N = sv := ⟨_, rfl⟩
    obtain ⟨se, hse⟩ : ∃ se, smallE n N = se := ⟨_, rfl⟩
    rw [hsv, hse]
    have HSV := hide hsv
    have HSE := hide hse
    clear hsv hse
    go_enter Try.func61, Try.ntmps61
    go_wp2_with fail
    refine h1.mono ?_
    rintro e w' ⟨rfl, rfl⟩
    clear h1
    have t := rdigits_c _ _ _ _ w _ h (Nat.le_refl _) hd (by omega)
    rw [hN] at t
    go_wp2_with fail
    refine t.mono ?_
    rintro e w1 ⟨A1, n1, c1, l1, rfl, s1, N1, hb, _⟩
    clear t
    have hl := N1.l256 hf s1.len
    have h8 := N1.length_le (by omega) 8
    rw [s1.len] at h8
    by_cases hs : n1 ≤ 8
    · have hlt := h8.1 hs
      have q1 : smallV n N = N := if_pos ⟨hk, by omega⟩
      have q2 : smallE n N = 0 := by unfold smallE; rw [if_pos hk, if_pos (by omega)]
      rw [HSV.out] at q1
      rw [HSE.out] at q2
      subst q1 q2
      have HN := hide N1.val_
      have HLT := hide hlt
      clear hlt h8
      obtain ⟨wo, rfl⟩ : ∃ wo : World, wo = w1 := ⟨_, rfl⟩
      go_wp2
      go_loopw [5, 6] (fun nv iv wr => ∃ (k v : Nat), k ≤ n1 ∧ iv = .int .i64 ((k : Int) - 1) ∧ nv = .int .u64 v ∧ Hid (val 256 (l1.drop k) = v) ∧ wo = wr) (fun _ iv _ => (intOf iv + 1).toNat)
      case atStart => exact ⟨n1, 0, Nat.le_refl _, rfl, rfl, by show _ = _; rw [List.drop_of_length_le (by rw [s1.len]; omega)]; rfl, (by first | rfl | trivial)⟩
      case round =>
        obtain ⟨k, v, hkn, rfl, rfl, HV, rfl⟩ := hrel
        by_cases h0 : 0 < k
        · obtain ⟨j, rfl⟩ : ∃ j, k = j + 1 := ⟨k - 1, by omega⟩
          rw [show ((j + 1 : Nat) : Int) - 1 = (j : Int) from by omega]
          obtain ⟨b1, o1, x, rfl, hb1, hx, hxm, hcx⟩ := s1.cell (i := j) (by omega)
          have hx1 := N1.dig x hxm
          have e := val_drop_at l1 j (by rw [s1.len]; omega)
          have e2 := val_drop_ge N1 j HLT.out
          rw [hx, HV.out] at e
          rw [e] at e2
          have HE := hide e
          have e3 : x + 256 * v < 18446744073709551616 := e2
          clear hx e e2
          go_wp2
          go_roundw
          case rel => exact ⟨j, v * 256 + x, by omega, rfl, by go_num, by show _ = _; rw [HE.out]; omega, (by first | rfl | trivial)⟩
          case measure => simp [intOf] <;> omega
        · obtain rfl : k = 0 := by omega
          have hv := HV.out
          rw [List.drop_zero, HN.out] at hv
          subst hv
          go_wp2
          go_ret2
          exact ⟨rfl, hb⟩
    · have hlt : ¬ N < 18446744073709551616 := fun hh => hs (h8.2 (by omega))
      have q1 : smallV n N = 0 := if_neg (by omega)
      have q2 : smallE n N = 8 := by unfold smallE; rw [if_pos hk, if_neg hlt]
      rw [HSV.out] at q1
      rw [HSE.out] at q2
      subst q1 q2
      go_wp2
      go_ret2
      exact ⟨rfl, hb⟩
  · rw [if_neg hk] at h1
    rw [show smallV n (val 4294967296 l) = 0 from if_neg (by omega), show smallE n (val 4294967296 l) = 4 from if_neg hk]
    go_enter Try.func61, Try.ntmps61
    go_wp2_with fail
    refine h1.mono ?_
    rintro e w' ⟨rfl, rfl⟩
    clear h1
    go_wp2
    go_ret2
    exact ⟨rfl, Below.refl _ _⟩
end
end Go.Proofs.Ytgilhkdmgbeieaa
