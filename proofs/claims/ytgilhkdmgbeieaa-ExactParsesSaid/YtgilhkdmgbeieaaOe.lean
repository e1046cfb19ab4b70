/- Contracts of Ball, exact's and the reference's. -/
import Derived.Test.YtgilhkdmgbeieaaOd
namespace Go.Proofs.Ytgilhkdmgbeieaa
open Go.RowKit

set_option maxRecDepth 100000 in
set_option maxHeartbeats 1600000 in
theorem xball_c (n t : Int) (w : World) (h1 : -9223372036854775808 ≤ t) (h2 : t ≤ 9223372036854775807) :
    Calls Try.prog 31 #[.int .i64 n, .int .i64 t] w (NumV w (SCount n (Bn n.toNat (t + 1).toNat))) := by
  by_cases h : 0 ≤ n ∧ n ≤ 512
  · obtain ⟨N, rfl⟩ := Int.eq_ofNat_of_zero_le h.1
    have hN : N ≤ 512 := by omega
    obtain ⟨m, HM, hm1, hm2⟩ : ∃ m : Int, Hid (min t (N : Int) = m) ∧ m ≤ N ∧ m ≤ t := ⟨_, rfl, by omega, by omega⟩
    obtain ⟨M, HMM⟩ : ∃ M : Nat, Hid ((m + 1).toNat = M) := ⟨_, rfl⟩
    have hMN : M ≤ N + 1 := by have := HMM.out; omega
    have hMm : ∀ i : Nat, i < M ↔ (i : Int) ≤ m := fun i => by have := HMM.out; omega
    have HW : Hid (Bn N (t + 1).toNat = Bn N M) := by
      have h3 := HM.out
      have h4 := HMM.out
      rcases Int.lt_or_le N t with hlt | hge
      · obtain rfl : M = N + 1 := by omega
        exact Bn_stop (Nat.le_refl _) (by omega)
      · show Bn N _ = Bn N _
        congr 1; omega
    rw [show ((N : Int)).toNat = N from rfl, HW.out]
    go_enter Try.func31, Try.ntmps31
    go_wp2
    go_loopw [6, 7, 8] (fun vs v1 iv wr => ∃ (i : Nat) (A0 : Option Addr) (n0 c0 : Nat) (l0 : List Nat) (A1 : Option Addr) (n1 c1 : Nat) (l1 : List Nat),
        i ≤ M ∧ iv = .int .i64 i ∧ vs = .slice A0 n0 c0 ∧ v1 = .slice A1 n1 c1 ∧ Sl wr wr.heap.size .u32 A0 n0 c0 l0 ∧ Num 4294967296 l0 (Bn N i) ∧
        Sl wr wr.heap.size .u32 A1 n1 c1 l1 ∧ Num 4294967296 l1 (Cn N i) ∧ Below w.heap.size w wr)
      (fun _ _ iv _ => M - (intOf iv).toNat)
    case atStart =>
      exact ⟨0, _, _, _, [], _, _, _, [1], by omega, rfl, rfl, rfl, Sl.nil _ _ _ _ _ (by omega), Num.nil _, (Sl.one w _ _ 1 rfl).mono (by simp), ⟨Digs.one (by omega), by rw [Cn_zero]; simp [val], fun i hi => by simp at hi; subst hi; simp⟩, (Below.refl _ _).alloc (Nat.le_refl _) _⟩
    case round =>
      obtain ⟨i, A0, n0, c0, l0, A1, n1, c1, l1, hi, rfl, rfl, rfl, s0, N0, s1, N1, hbw⟩ := hrel
      by_cases hlt : i < M
      · have hl0 := N0.len_Bn hN (by omega) s0.len
        have hl1 := N1.len_Cn hN s1.len
        have him := (hMm i).1 hlt
        go_wp2_with (with_reducible refine wl_min _ rfl _ _ _ rfl _ _ _ _ m rfl rfl (by have := HM.out; omega) ?_)
        have t2 := plus_c _ _ _ _ _ _ _ _ wr _ s0 s1 (Nat.le_refl _) N0.dig N1.dig (by omega) (by omega)
        rw [N0.val_, N1.val_] at t2
        refine t2.mono ?_
        rintro e w4 ⟨g4, n4, c4, l4, rfl, o4, N4, hb4⟩
        clear t2
        have s1' := (s1.below hb4).mono hb4.size
        have hbw4 := hbw.trans (hb4.mono hbw.size)
        clear s0 s1 hb4 hbw
        go_wp2_with fail
        have t3 := next_c _ _ _ _ w4 _ N i s1' (Nat.le_refl _) N1.dig (by omega) (by omega) (by omega)
        rw [N1.val_, Cn_next] at t3
        refine t3.mono ?_
        rintro e w5 ⟨g5, n5, c5, l5, rfl, o5, N5, hb5⟩
        clear t3
        have o4' := o4.below hb5 (Nat.le_refl _)
        have hbw5 := hbw4.trans (hb5.mono hbw4.size)
        clear s1' o4 hb5 hbw4
        go_wp2
        go_roundw
        case rel => exact ⟨i + 1, _, _, _, l4, _, _, _, l5, by omega, by go_num, rfl, rfl, o4'.sl, N4, o5.sl, N5, hbw5⟩
        case measure => simp [intOf] <;> omega
      · obtain rfl : i = M := by omega
        have him : ¬ (i : Int) ≤ m := fun hh => hlt ((hMm i).2 hh)
        have hl0 := N0.len_Bn hN (by omega) s0.len
        go_wp2_with (with_reducible refine wl_min _ rfl _ _ _ rfl _ _ _ _ m rfl rfl (by have := HM.out; omega) ?_)
        have t2 := clone_c _ _ _ _ wr _ s0 (Nat.le_refl _) N0.dig (by omega)
        rw [N0.val_] at t2
        refine t2.mono ?_
        rintro e w4 ⟨g4, n4, c4, l4, rfl, o4, N4, hb4⟩
        go_wp2
        go_ret2
        exact ⟨_, _, _, _, _, rfl, o4.sl, .inl ⟨h.1, h.2, N4, rfl⟩, hbw.trans (hb4.mono hbw.size)⟩
  · have hc : n < 0 ∨ (0 ≤ n ∧ 512 < n) := by omega
    rcases hc with hc | hc
    all_goals
      go_enter Try.func31, Try.ntmps31
      go_wp2
      go_ret2
      exact ⟨_, _, _, _, _, rfl, Sl.nil _ _ _ _ _ (by omega), .inr ⟨h, rfl, rfl⟩, Below.refl _ _⟩

set_option maxRecDepth 100000 in
set_option maxHeartbeats 1600000 in
theorem rball_c (n t : Int) (w : World) :
    Calls Try.prog 32 #[.int .i64 n, .int .i64 t] w (NumV w (SCount n (Bn n.toNat (t + 1).toNat))) := by
  by_cases h : 0 ≤ n ∧ n ≤ 512
  · obtain ⟨N, rfl⟩ := Int.eq_ofNat_of_zero_le h.1
    have hN : N ≤ 512 := by omega
    obtain ⟨M, HM⟩ : ∃ M : Nat, Hid ((min t (N : Int) + 1).toNat = M) := ⟨_, rfl⟩
    have hMN : M ≤ N + 1 := by have := HM.out; omega
    have hMm : ∀ i : Nat, i < M ↔ (i : Int) ≤ N ∧ (i : Int) ≤ t := fun i => by have := HM.out; omega
    have HW : Hid (Bn N (t + 1).toNat = Bn N M) := by
      have h3 := HM.out
      rcases Int.lt_or_le N t with hlt | hge
      · obtain rfl : M = N + 1 := by omega
        exact Bn_stop (Nat.le_refl _) (by omega)
      · show Bn N _ = Bn N _
        congr 1; omega
    rw [show ((N : Int)).toNat = N from rfl, HW.out]
    go_enter Try.func32, Try.ntmps32
    go_wp2_with fail
    refine (rrow_c N w hN).mono ?_
    rintro e w1 ⟨A, c, vs, rfl, o1, N1, hb1⟩
    go_wp2
    go_loopw [7, 8] (fun vs0 iv wr => ∃ (i : Nat) (A0 : Option Addr) (n0 c0 : Nat) (l0 : List Nat),
        i ≤ M ∧ iv = .int .i64 i ∧ vs0 = .slice A0 n0 c0 ∧ Sl wr wr.heap.size .i64 A0 n0 c0 l0 ∧ Num 256 l0 (Bn N i) ∧ Below w1.heap.size w1 wr)
      (fun _ iv _ => M - (intOf iv).toNat)
    case atStart => exact ⟨0, _, _, _, [], by omega, rfl, rfl, Sl.nil _ _ _ _ _ (by omega), Num.nil _, Below.refl _ _⟩
    case round =>
      obtain ⟨i, A0, n0, c0, l0, hi, rfl, rfl, s0, N0, hbw⟩ := hrel
      have hl0 := N0.len8_Bn hN (by omega) s0.len
      by_cases hlt : i < M
      · obtain ⟨hi1, hi2⟩ := (hMm i).1 hlt
        obtain ⟨Ad, nd, cd, ld, hv, sd, Nd⟩ := N1.at_ (j := i) (by rw [o1.len]; omega)
        have o1' := o1.below hbw (Nat.le_refl _)
        obtain ⟨g, rfl, hg, hcell⟩ := o1'.cell hv
        have hl := Nd.len8_Cn hN sd.len
        have sd' := (sd.below hbw).mono hbw.size
        clear hv
        go_wp2_with fail
        have t2 := radd_c _ _ _ _ _ _ _ _ wr _ s0 sd' (Nat.le_refl _) N0.dig Nd.dig (by omega) (by omega)
        rw [N0.val_, Nd.val_] at t2
        refine t2.mono ?_
        rintro e w4 ⟨A4, n4, c4, l4, rfl, s4, N4, hb4, _⟩
        clear t2
        go_wp2
        go_roundw
        case rel => exact ⟨i + 1, _, _, _, l4, by omega, by go_num, rfl, s4, N4, hbw.trans (hb4.mono hbw.size)⟩
        case measure => simp [intOf] <;> omega
      · obtain rfl : i = M := by omega
        have hbw0 := hb1.trans (hbw.mono hb1.size)
        have hout : ∀ wy e, (NatF wr (Bn N i)) e wy → ∃ A n c l, e = .returned (.slice A n c) ∧ Sl wy wy.heap.size .u32 A n c l ∧ Num 4294967296 l (Bn N i) ∧ Below w.heap.size w wy := by
          rintro wy e ⟨A2, n2, c2, l2, rfl, s2, N2, hb2, _⟩
          exact ⟨_, _, _, _, rfl, s2, N2, hbw0.trans (hb2.mono hbw0.size)⟩
        have hr := rnat_c _ _ _ _ _ wr _ s0 (Nat.le_refl _) N0 (by omega)
        by_cases hin : (i : Int) ≤ N
        · have him : ¬ (i : Int) ≤ t := fun hh => hlt ((hMm i).2 ⟨hin, hh⟩)
          go_wp2_with fail
          refine hr.mono ?_
          intro e w2 h9
          obtain ⟨A2, n2, c2, l2, rfl, s2, N2, hb2⟩ := hout _ _ h9
          go_wp2
          go_ret2
          exact ⟨_, _, _, _, _, rfl, s2, .inl ⟨h.1, h.2, N2, rfl⟩, hb2⟩
        · go_wp2_with fail
          refine hr.mono ?_
          intro e w2 h9
          obtain ⟨A2, n2, c2, l2, rfl, s2, N2, hb2⟩ := hout _ _ h9
          go_wp2
          go_ret2
          exact ⟨_, _, _, _, _, rfl, s2, .inl ⟨h.1, h.2, N2, rfl⟩, hb2⟩
  · have hc : n < 0 ∨ (0 ≤ n ∧ 512 < n) := by omega
    rcases hc with hc | hc
    all_goals
      go_enter Try.func32, Try.ntmps32
      go_wp2
      go_ret2
      exact ⟨_, _, _, _, _, rfl, Sl.nil _ _ _ _ _ (by omega), .inr ⟨h, rfl, rfl⟩, Below.refl _ _⟩
end Go.Proofs.Ytgilhkdmgbeieaa
